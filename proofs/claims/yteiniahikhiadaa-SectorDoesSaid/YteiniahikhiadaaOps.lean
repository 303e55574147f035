/-
  arguments opened: an op of the laws of sectors; a slice of them.
-/
import Derived.Test.YteiniahikhiadaaOpg
namespace Go.Proofs.Yteiniahikhiadaa
open Go.ChangeShapes Go.WideShapes Go.Deep Go.RowKit Go.ChangeAt
namespace Se
open Ce Og

/-- a call that a law of sectors makes -/
structure OpV where
  kd : Int
  i : Int
  n : Int
  b : UInt8
  keep : List Int
  bytes : List UInt8
structure OkOp (o : OpV) : Prop where
  kd : -9223372036854775808 ≤ o.kd ∧ o.kd ≤ 9223372036854775807
  i : -9223372036854775808 ≤ o.i ∧ o.i ≤ 9223372036854775807
  n : -9223372036854775808 ≤ o.n ∧ o.n ≤ 9223372036854775807
  keep : ∀ k ∈ o.keep, -9223372036854775808 ≤ k ∧ k ≤ 9223372036854775807
def opC (o : OpV) (kv bv : Value) : List Value := [.int .i64 o.kd, .int .i64 o.i, .int .i64 o.n, .int .u8 (o.b.toNat : Int), kv, bv]

set_option maxRecDepth 100000 in
theorem op_of_trod {H : Type} {enc : TypeId × Value → H} {W : World} {cs : List Value} {x : DataW H × List MemPlace} {held : Bool} {fuel : Nat} (hf : DataW.trod enc Try.prog W 0 (fun _ => true) held fuel 67 cs = some x) :
    ∃ (o : OpV) (kv bv : Value), cs = opC o kv bv ∧ OkOp o ∧ IntsAt W 0 W.heap.size kv o.keep ∧ BytesAt W 0 W.heap.size bv o.bytes := by
  obtain ⟨ys, n, hn, hy, hlen, hyl, hfs⟩ := DataW.trod_struct Try.underlying67 hf
  have hl6 : cs.length = 6 := hlen.trans (by kernel_rfl)
  obtain ⟨v0, v1, v2, v3, v4, v5, rfl⟩ : ∃ v0 v1 v2 v3 v4 v5, cs = [v0, v1, v2, v3, v4, v5] := by
    match cs, hl6 with
    | [a, b, c, d, e, f], _ => exact ⟨a, b, c, d, e, f, rfl⟩
  have hys : ∀ j, j < 6 → ∃ y, ys[j]? = some y := fun j hj => ⟨_, List.getElem?_eq_getElem (by rw [hyl]; exact hj)⟩
  have int_of : ∀ (j : Nat) (f : Field) (v : Value), j < 6 → f.type = 3 → DataW.trod enc Try.prog W 0 (fun _ => true) held n f.type [v] = ys[j]? → ∃ k : Int, v = .int .i64 k ∧ -9223372036854775808 ≤ k ∧ k ≤ 9223372036854775807 := fun j f v hj hft h => by
    obtain ⟨y, hy⟩ := hys j hj
    rw [hy, hft] at h
    obtain ⟨k, e1, _, hk⟩ := DataW.trod_int Try.underlying3 h
    simp only [List.cons.injEq, and_true] at e1
    subst e1
    exact ⟨k, rfl, by simpa [Lit.wf, IntKind.min, IntKind.max, IntKind.signed, IntKind.bits] using hk⟩
  have fld := fun (j : Nat) (f : Field) hj => by
    obtain ⟨ho, hk⟩ := hone_of (P := Try.prog) (by kernel_rfl) j f hj
    have := hfs j f hj
    rw [ho, hk] at this
    exact this
  have g0 := fld 0 _ rfl
  have g1 := fld 1 _ rfl
  have g2 := fld 2 _ rfl
  have g3 := fld 3 _ rfl
  have g4 := fld 4 _ rfl
  have g5 := fld 5 _ rfl
  obtain ⟨k0, rfl, b0⟩ := int_of 0 _ v0 (by omega) rfl g0
  obtain ⟨k1, rfl, b1⟩ := int_of 1 _ v1 (by omega) rfl g1
  obtain ⟨k2, rfl, b2⟩ := int_of 2 _ v2 (by omega) rfl g2
  obtain ⟨k3, rfl⟩ : ∃ k : UInt8, v3 = .int .u8 (k.toNat : Int) := by
    obtain ⟨y, hy⟩ := hys 3 (by omega)
    rw [hy] at g3
    obtain ⟨k, e1, _, hk⟩ := DataW.trod_int Try.underlying5 g3
    have hkb : 0 ≤ k ∧ k ≤ 255 := by simpa [Lit.wf, IntKind.min, IntKind.max, IntKind.signed, IntKind.bits] using hk
    have e2 : v3 = .int .u8 k := by simpa using e1
    refine ⟨UInt8.ofNat k.toNat, ?_⟩
    rw [toNat_ofNat (by omega), show ((k.toNat : Nat) : Int) = k by omega, e2]
  obtain ⟨y4, hy4⟩ := hys 4 (by omega)
  rw [hy4] at g4
  obtain ⟨L4, h4, b4, -⟩ := ints_of_trod (v := v4) g4
  obtain ⟨y5, hy5⟩ := hys 5 (by omega)
  rw [hy5] at g5
  obtain ⟨L5, h5, -⟩ := bytes_of_trod (v := v5) g5
  exact ⟨⟨k0, k1, k2, k3, L4, L5⟩, v4, v5, rfl, ⟨b0, b1, b2, b4⟩, h4, h5⟩

set_option maxRecDepth 100000 in
theorem open_op {H : Type} {enc : TypeId × Value → H} {W : World} {base : Nat} {v : Value} {d : DataW H} {p : List MemPlace} {held : Bool} (hval : Value.okWide Try.prog W .any base 67 v)
    (h : DataW.Trod enc Try.prog W 0 (fun _ => true) held 67 v d p) :
    ∃ (o : OpV) (kv bv : Value), v = .agg (opC o kv bv).toArray ∧ OkOp o ∧ IntsAt W 0 W.heap.size kv o.keep ∧ BytesAt W 0 W.heap.size bv o.bytes := by
  obtain ⟨cs, rfl, -⟩ := okWide_struct Try.underlying67 hval
  obtain ⟨fuel, hf⟩ := h
  obtain ⟨o, kv, bv, e, h1, h2, h3⟩ := op_of_trod hf
  refine ⟨o, kv, bv, ?_, h1, h2, h3⟩
  congr 1
  rw [← e]
  simp [Value.cells]

/-- a slice of ops, all below B -/
def OpsAt (w : World) (B : Nat) (v : Value) (os : List OpV) : Prop :=
  ∃ A c, v = .slice A os.length c ∧ os.length ≤ c ∧ c ≤ maxLen ∧ ∀ j (h : j < os.length), ∃ b p kv bv, A = some ⟨b, p, none⟩ ∧ b < B ∧ IntsAt w 0 B kv os[j].keep ∧ BytesAt w 0 B bv os[j].bytes ∧ ∀ i v, (opC os[j] kv bv)[i]? = some v → w.cell? ⟨b, p + j * 6 + i, none⟩ = some v
theorem OpsAt.below {w w' : World} {B : Nat} {v : Value} {os : List OpV} (h : OpsAt w B v os) (hb : Below B w w') : OpsAt w' B v os := by
  obtain ⟨A, c, e, h1, h2, h3⟩ := h
  refine ⟨A, c, e, h1, h2, fun j hj => ?_⟩
  obtain ⟨b, p, kv, bv, ea, hbB, hI, hJ, hc⟩ := h3 j hj
  exact ⟨b, p, kv, bv, ea, hbB, hI.mono hb (Nat.le_refl _), hJ.below hb, fun i v hv => (hb.cell (p := ⟨b, p + j * 6 + i, none⟩) hbB).trans (hc i v hv)⟩
theorem OpsAt.form {w : World} {B : Nat} {v : Value} {os : List OpV} (h : OpsAt w B v os) : ∃ A c, v = .slice A os.length c ∧ os.length ≤ c ∧ c ≤ maxLen := by
  obtain ⟨A, c, e, h1, h2, -⟩ := h
  exact ⟨A, c, e, h1, h2⟩
theorem OpsAt.at_ {w : World} {B n c j : Nat} {A : Option Addr} {os : List OpV} (h : OpsAt w B (.slice A n c) os) (hj : j < os.length) : ∃ b p kv bv, A = some ⟨b, p, none⟩ ∧ b < B ∧ IntsAt w 0 B kv os[j].keep ∧ BytesAt w 0 B bv os[j].bytes ∧
    w.cell? ⟨b, p + j * 6, none⟩ = some (.int .i64 os[j].kd) ∧ w.cell? ⟨b, p + j * 6 + 1, none⟩ = some (.int .i64 os[j].i) ∧ w.cell? ⟨b, p + j * 6 + 2, none⟩ = some (.int .i64 os[j].n) ∧ w.cell? ⟨b, p + j * 6 + 3, none⟩ = some (.int .u8 (os[j].b.toNat : Int)) ∧ w.cell? ⟨b, p + j * 6 + 4, none⟩ = some kv ∧ w.cell? ⟨b, p + j * 6 + 5, none⟩ = some bv := by
  obtain ⟨A', c', e, h1, h2, h3⟩ := h
  cases e
  obtain ⟨b, p, kv, bv, ea, hbB, hI, hJ, hc⟩ := h3 j hj
  exact ⟨b, p, kv, bv, ea, hbB, hI, hJ, hc 0 _ rfl, hc 1 _ rfl, hc 2 _ rfl, hc 3 _ rfl, hc 4 _ rfl, hc 5 _ rfl⟩

set_option maxRecDepth 100000 in
/-- an argument that is a slice of ops -/
theorem open_ops {H : Type} {enc : TypeId × Value → H} {W : World} {base : Nat} {v : Value} {d : DataW H} {p : List MemPlace} {held : Bool} (hval : Value.okWide Try.prog W .any base 65 v)
    (h : DataW.Trod enc Try.prog W 0 (fun _ => true) held 65 v d p) :
    ∃ os : List OpV, OpsAt W W.heap.size v os ∧ (∀ o ∈ os, OkOp o) ∧ ((d = .nil ∧ os = []) ∨ ∃ es sp, d = .slice es sp ∧ es.length = os.length) := by
  obtain ⟨A, n, c, rfl⟩ := okWide_slice Try.underlying65 hval
  obtain ⟨fuel, hf⟩ := h
  have hC : Try.prog.cellsOf 67 = 6 := by kernel_rfl
  rcases open_slice Try.underlying65 hf with h0 | ⟨a, len, cap, m, k, D, Pl, hcs, hb, hl, hm, hmm, hx, hi⟩
  · obtain ⟨h1, h2⟩ := h0
    simp only [Value.cells, List.cons.injEq, and_true] at h1
    cases h1
    simp only [Prod.mk.injEq] at h2
    exact ⟨[], ⟨none, 0, rfl, Nat.le_refl _, by unfold maxLen; omega, fun j hj => by simp at hj⟩, (fun x hx => by cases hx), .inl ⟨h2.1, rfl⟩⟩
  · simp only [Value.cells, List.cons.injEq, and_true] at hcs
    cases hcs
    simp only [if_true] at hmm
    subst hmm
    simp only [Prod.mk.injEq] at hx
    rw [hC] at hi
    have hel : ∀ i, i < n → ∃ x : OpV, OkOp x ∧ ∃ kv bv, IntsAt W 0 W.heap.size kv x.keep ∧ BytesAt W 0 W.heap.size bv x.bytes ∧ ∀ j v, (opC x kv bv)[j]? = some v → W.cell? (a.add (i * 6 + j)) = some v := by
      intro i hin
      obtain ⟨cs', hc, ht'⟩ := hi i (by omega)
      obtain ⟨_, hcl, hat⟩ := World.cells?_some hc
      obtain ⟨o, kv, bv, e, h1, h2, h3⟩ := op_of_trod ht'
      refine ⟨o, h1, kv, bv, h2, h3, fun j v hv => ?_⟩
      have hj : j < 6 := by
        have := (List.getElem?_eq_some_iff.1 hv).1
        simpa [opC] using this
      have hcell := hat (i := j) (by omega)
      rw [← Go.Deep.add_add, hcell, e]
      exact hv
    obtain ⟨os, hLn, hL⟩ := list_of n _ hel
    refine ⟨os, ?_, fun x hx => ?_, .inr ⟨_, _, hx.1, by simp [hLn]⟩⟩
    · subst hLn
      refine ⟨_, _, rfl, hl, hm, fun j hj => ?_⟩
      obtain ⟨_, kv, bv, hI, hJ, hc⟩ := hL j hj
      obtain ⟨_, kv0, bv0, -, -, hc0⟩ := hL 0 (by omega)
      have h00 := hc0 0 _ rfl
      rw [Nat.zero_mul, add_zero] at h00
      obtain ⟨b, o, rfl, hbW⟩ := spot_none h00
      refine ⟨b, o, kv, bv, rfl, hbW, hI, hJ, fun i v hv => ?_⟩
      have := hc i v hv
      rw [addr_add] at this
      rw [← this]
      congr 2
      omega
    · obtain ⟨i, hi, rfl⟩ := List.getElem_of_mem hx
      exact (hL i hi).1
end Se
end Go.Proofs.Yteiniahikhiadaa
