/-
  arguments opened: an op of the laws of moves; a slice of them.
-/
import Derived.Test.YtdbkkldgobkjcaaOpen
namespace Go.Proofs.Ytdbkkldgobkjcaa
open Go.ChangeShapes Go.WideShapes Go.Deep Go.RowKit Go.ChangeAt
namespace Mv
open It

/-- a call that a law of moves makes -/
structure OpV where
  kd : Int
  mv : Int
  fr : Int
  to_ : Int
  l : List It.Item
structure OkOp (o : OpV) : Prop where
  kd : -9223372036854775808 ≤ o.kd ∧ o.kd ≤ 9223372036854775807
  mv : -9223372036854775808 ≤ o.mv ∧ o.mv ≤ 9223372036854775807
  fr : -9223372036854775808 ≤ o.fr ∧ o.fr ≤ 9223372036854775807
  to_ : -9223372036854775808 ≤ o.to_ ∧ o.to_ ≤ 9223372036854775807
  l : Fits o.l
def opC (o : OpV) (lv : Value) : List Value := [.int .i64 o.kd, .int .i64 o.mv, .int .i64 o.fr, .int .i64 o.to_, lv]

set_option maxRecDepth 100000 in
theorem op_of_trod {H : Type} {enc : TypeId × Value → H} {W : World} {cs : List Value} {x : DataW H × List MemPlace} {held : Bool} {fuel : Nat} (hf : DataW.trod enc Try.prog W 0 (fun _ => true) held fuel 32 cs = some x) :
    ∃ (o : OpV) (lv : Value), cs = opC o lv ∧ OkOp o ∧ ItemsAt W 0 W.heap.size lv o.l := by
  obtain ⟨ys, n, hn, hy, hlen, hyl, hfs⟩ := DataW.trod_struct Try.underlying32 hf
  have hl5 : cs.length = 5 := hlen.trans (by kernel_rfl)
  obtain ⟨v0, v1, v2, v3, v4, rfl⟩ : ∃ v0 v1 v2 v3 v4, cs = [v0, v1, v2, v3, v4] := by
    match cs, hl5 with
    | [a, b, c, d, e], _ => exact ⟨a, b, c, d, e, rfl⟩
  have one : ∀ t, t = 3 → Try.prog.cellsOf t = 1 := fun t e => by subst e; kernel_rfl
  have hys : ∀ j, j < 5 → ∃ y, ys[j]? = some y := fun j hj => ⟨_, List.getElem?_eq_getElem (by rw [hyl]; exact hj)⟩
  have int_of : ∀ (j : Nat) (f : Field) (v : Value), j < 5 → f.type = 3 → DataW.trod enc Try.prog W 0 (fun _ => true) held n f.type [v] = ys[j]? → ∃ k : Int, v = .int .i64 k ∧ -9223372036854775808 ≤ k ∧ k ≤ 9223372036854775807 := fun j f v hj hft h => by
    obtain ⟨y, hy⟩ := hys j hj
    rw [hy, hft] at h
    obtain ⟨k, e1, _, hk⟩ := DataW.trod_int Try.underlying3 h
    simp only [List.cons.injEq, and_true] at e1
    subst e1
    exact ⟨k, rfl, by simpa [Lit.wf, IntKind.min, IntKind.max, IntKind.signed, IntKind.bits] using hk⟩
  have fld := fun (j : Nat) (f : Field) hj => by
    obtain ⟨ho, hk⟩ := hone_of (P := Try.prog) (by kernel_rfl) j f hj
    have := hfs j f hj
    rw [ho, hk] at this
    exact this
  have g0 := fld 0 _ rfl
  have g1 := fld 1 _ rfl
  have g2 := fld 2 _ rfl
  have g3 := fld 3 _ rfl
  have g4 := fld 4 _ rfl
  obtain ⟨k0, rfl, b0⟩ := int_of 0 _ v0 (by omega) rfl g0
  obtain ⟨k1, rfl, b1⟩ := int_of 1 _ v1 (by omega) rfl g1
  obtain ⟨k2, rfl, b2⟩ := int_of 2 _ v2 (by omega) rfl g2
  obtain ⟨k3, rfl, b3⟩ := int_of 3 _ v3 (by omega) rfl g3
  obtain ⟨y, hy4⟩ := hys 4 (by omega)
  rw [hy4] at g4
  obtain ⟨L, h1, h2, -⟩ := items_of_trod (v := v4) g4
  exact ⟨⟨k0, k1, k2, k3, L⟩, v4, rfl, ⟨b0, b1, b2, b3, h2⟩, h1⟩

set_option maxRecDepth 100000 in
theorem open_op {H : Type} {enc : TypeId × Value → H} {W : World} {base : Nat} {v : Value} {d : DataW H} {p : List MemPlace} {held : Bool} (hval : Value.okWide Try.prog W .any base 32 v)
    (h : DataW.Trod enc Try.prog W 0 (fun _ => true) held 32 v d p) :
    ∃ (o : OpV) (lv : Value), v = .agg (opC o lv).toArray ∧ OkOp o ∧ ItemsAt W 0 W.heap.size lv o.l := by
  obtain ⟨cs, rfl, -⟩ := okWide_struct Try.underlying32 hval
  obtain ⟨fuel, hf⟩ := h
  obtain ⟨o, lv, e, h1, h2⟩ := op_of_trod hf
  refine ⟨o, lv, ?_, h1, h2⟩
  congr 1
  rw [← e]
  simp [Value.cells]

/-- a slice of ops, all below B -/
def OpsAt (w : World) (B : Nat) (v : Value) (os : List OpV) : Prop :=
  ∃ A c, v = .slice A os.length c ∧ os.length ≤ c ∧ c ≤ maxLen ∧ ∀ j (h : j < os.length), ∃ b p lv, A = some ⟨b, p, none⟩ ∧ b < B ∧ ItemsAt w 0 B lv os[j].l ∧ ∀ i v, (opC os[j] lv)[i]? = some v → w.cell? ⟨b, p + j * 5 + i, none⟩ = some v
theorem OpsAt.below {w w' : World} {B : Nat} {v : Value} {os : List OpV} (h : OpsAt w B v os) (hb : Below B w w') : OpsAt w' B v os := by
  obtain ⟨A, c, e, h1, h2, h3⟩ := h
  refine ⟨A, c, e, h1, h2, fun j hj => ?_⟩
  obtain ⟨b, p, lv, ea, hbB, hI, hc⟩ := h3 j hj
  exact ⟨b, p, lv, ea, hbB, hI.below hb, fun i v hv => (hb.cell (p := ⟨b, p + j * 5 + i, none⟩) hbB).trans (hc i v hv)⟩
theorem OpsAt.form {w : World} {B : Nat} {v : Value} {os : List OpV} (h : OpsAt w B v os) : ∃ A c, v = .slice A os.length c ∧ os.length ≤ c ∧ c ≤ maxLen := by
  obtain ⟨A, c, e, h1, h2, -⟩ := h
  exact ⟨A, c, e, h1, h2⟩
theorem OpsAt.at_ {w : World} {B n c j : Nat} {A : Option Addr} {os : List OpV} (h : OpsAt w B (.slice A n c) os) (hj : j < os.length) : ∃ b p lv, A = some ⟨b, p, none⟩ ∧ b < B ∧ ItemsAt w 0 B lv os[j].l ∧
    w.cell? ⟨b, p + j * 5, none⟩ = some (.int .i64 os[j].kd) ∧ w.cell? ⟨b, p + j * 5 + 1, none⟩ = some (.int .i64 os[j].mv) ∧ w.cell? ⟨b, p + j * 5 + 2, none⟩ = some (.int .i64 os[j].fr) ∧ w.cell? ⟨b, p + j * 5 + 3, none⟩ = some (.int .i64 os[j].to_) ∧ w.cell? ⟨b, p + j * 5 + 4, none⟩ = some lv := by
  obtain ⟨A', c', e, h1, h2, h3⟩ := h
  cases e
  obtain ⟨b, p, lv, ea, hbB, hI, hc⟩ := h3 j hj
  exact ⟨b, p, lv, ea, hbB, hI, hc 0 _ rfl, hc 1 _ rfl, hc 2 _ rfl, hc 3 _ rfl, hc 4 _ rfl⟩

set_option maxRecDepth 100000 in
/-- an argument that is a slice of ops -/
theorem open_ops {H : Type} {enc : TypeId × Value → H} {W : World} {base : Nat} {v : Value} {d : DataW H} {p : List MemPlace} {held : Bool} (hval : Value.okWide Try.prog W .any base 22 v)
    (h : DataW.Trod enc Try.prog W 0 (fun _ => true) held 22 v d p) :
    ∃ os : List OpV, OpsAt W W.heap.size v os ∧ (∀ o ∈ os, OkOp o) ∧ ((d = .nil ∧ os = []) ∨ ∃ es sp, d = .slice es sp ∧ es.length = os.length) := by
  obtain ⟨A, n, c, rfl⟩ := okWide_slice Try.underlying22 hval
  obtain ⟨fuel, hf⟩ := h
  have hC : Try.prog.cellsOf 32 = 5 := by kernel_rfl
  rcases open_slice Try.underlying22 hf with h0 | ⟨a, len, cap, m, k, D, Pl, hcs, hb, hl, hm, hmm, hx, hi⟩
  · obtain ⟨h1, h2⟩ := h0
    simp only [Value.cells, List.cons.injEq, and_true] at h1
    cases h1
    simp only [Prod.mk.injEq] at h2
    exact ⟨[], ⟨none, 0, rfl, Nat.le_refl _, by unfold maxLen; omega, fun j hj => by simp at hj⟩, (fun x hx => by cases hx), .inl ⟨h2.1, rfl⟩⟩
  · simp only [Value.cells, List.cons.injEq, and_true] at hcs
    cases hcs
    simp only [if_true] at hmm
    subst hmm
    simp only [Prod.mk.injEq] at hx
    rw [hC] at hi
    have hel : ∀ i, i < n → ∃ x : OpV, OkOp x ∧ ∃ lv, ItemsAt W 0 W.heap.size lv x.l ∧ ∀ j v, (opC x lv)[j]? = some v → W.cell? (a.add (i * 5 + j)) = some v := by
      intro i hin
      obtain ⟨cs', hc, ht'⟩ := hi i (by omega)
      obtain ⟨_, hcl, hat⟩ := World.cells?_some hc
      obtain ⟨o, lv, e, h1, h2⟩ := op_of_trod ht'
      refine ⟨o, h1, lv, h2, fun j v hv => ?_⟩
      have hj : j < 5 := by
        have := (List.getElem?_eq_some_iff.1 hv).1
        simpa [opC] using this
      have hcell := hat (i := j) (by omega)
      rw [← Go.Deep.add_add, hcell, e]
      exact hv
    obtain ⟨os, hLn, hL⟩ := list_of n _ hel
    refine ⟨os, ?_, fun x hx => ?_, .inr ⟨_, _, hx.1, by simp [hLn]⟩⟩
    · subst hLn
      refine ⟨_, _, rfl, hl, hm, fun j hj => ?_⟩
      obtain ⟨_, lv, hI, hc⟩ := hL j hj
      obtain ⟨_, lv0, -, hc0⟩ := hL 0 (by omega)
      have h1 := cell_addr (hc0 0 _ rfl)
      obtain ⟨b, o, sp⟩ := a
      have hsp : sp = none := by
        have := h1.1
        unfold Addr.add at this
        simpa using this
      subst hsp
      have hb : b < W.heap.size := by
        have := h1.2
        rw [addr_add] at this
        exact this
      refine ⟨b, o, lv, rfl, hb, hI, fun i v hv => ?_⟩
      have := hc i v hv
      rw [addr_add] at this
      rw [← this]
      congr 2
      omega
    · obtain ⟨i, hi, rfl⟩ := List.getElem_of_mem hx
      exact (hL i hi).1
end Mv
end Go.Proofs.Ytdbkkldgobkjcaa
