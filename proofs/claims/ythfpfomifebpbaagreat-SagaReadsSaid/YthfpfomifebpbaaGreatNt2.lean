/-
  arguments opened: a slice of bytes.
  the row SagaReads.
-/
import Derived.Test.YthfpfomifebpbaaGreatNz12
import Derived.Test.YthfpfomifebpbaaGreatNx2
import Derived.Test.YthfpfomifebpbaaGreatNt1

set_option linter.unusedVariables false
set_option linter.unusedSimpArgs false
namespace Go.Proofs.YthfpfomifebpbaaGreat
open Go.ChangeShapes Go.WideShapes Go.Deep Go.RowKit Go.ChangeAt
namespace Ce
set_option maxRecDepth 100000 in
/-- an argument that is a slice of bytes -/
theorem open_bytes {H : Type} {enc : TypeId × Value → H} {W : World} {base : Nat} {v : Value} {d : DataW H} {p : List MemPlace} {held : Bool} (hval : Value.okWide Tryz.prog W .any base 39 v)
    (h : DataW.Trod enc Tryz.prog W 0 (fun _ => true) held 39 v d p) :
    ∃ L : List UInt8, BytesAt W 0 W.heap.size v L ∧ ((d = .nil ∧ L = []) ∨ ∃ es sp, d = .slice es sp ∧ es.length = L.length) := by
  obtain ⟨A, n, c, rfl⟩ := okWide_slice Tryz.underlying39 hval
  obtain ⟨fuel, hf⟩ := h
  rcases open_slice1 Tryz.underlying39 (show Tryz.prog.cellsOf 5 = 1 by kernel_rfl) hf with ⟨h1, h2⟩ | ⟨a, len, cap, m, n', V, D, Pl, hcs, hb, hl, hm, hmm, hx, hi⟩
  · simp only [Value.cells, List.cons.injEq, and_true] at h1
    cases h1
    simp only [Prod.mk.injEq] at h2
    exact ⟨[], BytesAt.nil _ _ _, .inl ⟨h2.1, rfl⟩⟩
  · simp only [Value.cells, List.cons.injEq, and_true] at hcs
    cases hcs
    simp only [if_true] at hmm
    subst hmm
    simp only [Prod.mk.injEq] at hx
    have hel : ∀ i, i < n → ∃ x : UInt8, W.cell? (a.add i) = some (.int .u8 (x.toNat : Int)) := by
      intro i hin
      obtain ⟨hc, ht'⟩ := hi i (by omega)
      obtain ⟨k, e1, _, hk⟩ := DataW.trod_int Tryz.underlying5 ht'
      have hkb : 0 ≤ k ∧ k ≤ 255 := by simpa [Lit.wf, IntKind.min, IntKind.max, IntKind.signed, IntKind.bits] using hk
      simp only [List.cons.injEq, and_true] at e1
      refine ⟨UInt8.ofNat k.toNat, ?_⟩
      rw [toNat_ofNat (by omega), show ((k.toNat : Nat) : Int) = k by omega, hc, e1]
    obtain ⟨L, hLn, hL⟩ := list_of n _ hel
    refine ⟨L, ?_, .inr ⟨_, _, hx.1, by simp [hLn]⟩⟩
    rcases Nat.eq_zero_or_pos n with h0 | h0
    · subst h0
      obtain rfl : L = [] := List.eq_nil_of_length_eq_zero hLn
      exact ⟨rfl, _, _, rfl, hl, hm, fun h => by omega⟩
    · have h1 := cell_addr (hL 0 (by omega))
      obtain ⟨b, o, sp⟩ := a
      have hsp : sp = none := by
        have := h1.1
        unfold Addr.add at this
        simpa using this
      subst hsp
      have hb : b < W.heap.size := by
        have := h1.2
        rw [addr_add] at this
        exact this
      subst hLn
      refine ⟨by rw [bytesV_length]; simp, _, _, rfl, hl, hm, fun _ => ⟨b, o, rfl, Nat.zero_le _, hb, fun j hj => ?_⟩⟩
      have hj' : j < L.length := by simpa using hj
      have := hL j hj'
      rw [addr_add] at this
      rw [this]
      unfold bytesV
      rw [List.getElem?_map, List.getElem?_eq_getElem hj']
      rfl
theorem bytes_bytes : Tryz.prog.bytesOf 5 = 1 := by kernel_rfl
theorem bytes_reach {H : Type} {ts : List TypeId} {ds : List (DataW H)} {j : Nat} {d : DataW H} {L : List UInt8} (h : (DataW.weightsEach Tryz.prog ts ds).all (· ≤ reachBytes) = true) (ht : ts[j]? = some 39) (hd : ds[j]? = some d)
    (hx : (d = .nil ∧ L = []) ∨ ∃ es sp, d = .slice es sp ∧ es.length = L.length) : L.length ≤ 140737488351232 := by
  rcases hx with ⟨_, rfl⟩ | ⟨es, sp, rfl, hl⟩
  · simp
  · have := sized_slice h ht hd Tryz.underlying39
    rw [bytes_bytes] at this
    unfold reachBytes at this
    omega
end Ce
end Go.Proofs.YthfpfomifebpbaaGreat

namespace Go.Proofs.YthfpfomifebpbaaGreat
open Go.ChangeShapes Go.WideShapes Go.ChangeAt Go.RowKit
namespace Sa
set_option maxRecDepth 100000 in
theorem sagaReads_lifted (os : Os) (started : os.Started) (H : Type) (enc : TypeId × Value → H) :
    ReturnsInHanded {} Tryz.checked os 5 .any (Rows.sagaReadsSpec.pre6 enc Tryz.prog Tryz.f5 Rows.sagaReadsRow.domain false) (Rows.sagaReadsSpec.post enc Tryz.prog Tryz.f5 false true false false) := by
  refine returnsInHanded_of_change_sized (C := Tryz.checked) own started (by kernel_rfl) Tryz.func5
    (ChangeSpec.witness6 (enc := enc) (C := Tryz.checked) false ⟨#[], #[.slice none 0 0], []⟩ 8 (by kernel_rfl) (by kernel_rfl) (by kernel_rfl) (by kernel_rfl)) ?_
  intro W base args ds gs before hval0 hW _ hsz0 _
  have hsz : (DataW.weightsEach Tryz.prog (Tryz.f5.params.toList ++ Rows.sagaReadsSpec.plain.varTypes Tryz.prog) (ds ++ gs)).all (· ≤ reachBytes) = true := hsz0
  have hval : ∀ (j : Nat) t v, Tryz.f5.params[j]? = some t → args[j]? = some v → Value.okWide Tryz.prog W .any base t v := hval0
  obtain ⟨p, q, hA0, hV, hps, hfz, hnd⟩ := id hW
  have hA : DataW.TrodAll enc Tryz.prog W 0 (fun _ => true) true Tryz.f5.params.toList args.toList ds p := hA0
  rw [Tryz.params5] at hA hval hsz
  obtain ⟨v0, vs0, d0, ds0, p0, q0, hargs, rfl, rfl, h0, r0⟩ := trodAll_cons hA
  obtain ⟨rfl, rfl, rfl⟩ := trodAll_nil r0
  obtain rfl : args = #[v0] := by cases args; simp_all
  obtain ⟨rfl, rfl⟩ := trodVars_none hV
  obtain ⟨b, hb, db⟩ := Ce.open_bytes (hval 0 39 v0 rfl rfl) h0
  have rb := Ce.bytes_reach (j := 0) hsz rfl rfl db
  refine (reads_law b v0 W hb rb).mono fun e W' ⟨he, hb⟩ => ?_
  subst he
  exact ⟨_, rfl, law_post laidOut (by kernel_rfl) rfl Tryz.underlying4 rfl hW rfl hb⟩

theorem sagaReads_holds : Rows.SagaReadsSaid :=
  OpenClaim.holds_of_wide 5 Tryz.f5 rfl rfl rfl rfl rfl rfl rfl ⟨rfl, rfl, rfl, rfl, rfl⟩ rfl rfl rfl rfl rfl (by kernel_rfl) Tryz.func5 (by kernel_rfl)
    (of_decide_eq_true (by kernel_rfl)) (by unfold Func.isWrapper; first | (rw [if_pos (by decide +kernel)]; kernel_rfl) | (rw [if_neg (by decide +kernel)]; exact ⟨rfl, rfl⟩))
    (fun os started H enc _ => sagaReads_lifted os started H enc)

end Sa
end Go.Proofs.YthfpfomifebpbaaGreat
