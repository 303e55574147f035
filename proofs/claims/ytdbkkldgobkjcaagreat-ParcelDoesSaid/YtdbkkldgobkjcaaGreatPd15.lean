/-
  arguments opened: a slice of structs, whatever the number of their one-cell fields; a slice of items.
  arguments opened: an op of the laws of parcels; a slice of them.
-/
import Derived.Test.YtdbkkldgobkjcaaGreatPd1
import Derived.Test.YtdbkkldgobkjcaaGreatPd14
import Derived.SizedLaws
import Derived.Deep.Slices
import Derived.Deep.Fields
import Derived.ChangeSame

set_option linter.unusedVariables false
set_option linter.unusedSimpArgs false
namespace Go.Proofs.YtdbkkldgobkjcaaGreat
open Go.ChangeShapes Go.WideShapes Go.Deep Go.RowKit Go.ChangeAt

section
variable {H : Type} {enc : TypeId × Value → H} {P : Program} {w : World} {base : Nat} {spare : Nat → Bool} {held : Bool}
theorem open_slice_fields {t e : TypeId} {fs : Array Field} {fuel : Nat} {cs : List Value} {x : DataW H × List MemPlace} (ht : P.underlying t = some (.slice e)) (he : P.underlying e = some (.struct fs))
    (hone : oneCellFields P fs = true) (hC : P.cellsOf e = fs.size) (h : DataW.trod enc P w base spare held fuel t cs = some x) :
    (cs = [.slice none 0 0] ∧ x = (.nil, [])) ∨
    ∃ (a : Addr) (len cap m : Nat) (D : Nat → DataW H) (Pl : Nat → List MemPlace), cs = [.slice (some a) len cap] ∧ base ≤ a.block ∧ len ≤ cap ∧ cap ≤ maxLen ∧ m = (if spare a.block then cap else len) ∧
      x = (.slice ((List.range len).map D) ((List.range (m - len)).map fun j => D (len + j)), MemPlace.row a (m * fs.size) ++ (List.range m).flatMap Pl) ∧
      ∀ i, i < m → ∃ (ys : List (DataW H × List MemPlace)) (n : Nat), D i = .agg (ys.map (·.1)) ∧ Pl i = ys.flatMap (·.2) ∧ ys.length = fs.size ∧
        ∀ (j : Nat) (f : Field), fs[j]? = some f → ∃ (v : Value) (y : DataW H × List MemPlace), w.cell? (a.add (i * fs.size + j)) = some v ∧ ys[j]? = some y ∧ DataW.trod enc P w base spare held n f.type [v] = some y := by
  rcases open_slice ht h with h0 | ⟨a, len, cap, m, n, D, Pl, hcs, hb, hl, hm, hmm, hx, hi⟩
  · exact .inl h0
  · refine .inr ⟨a, len, cap, m, D, Pl, hcs, hb, hl, hm, hmm, by rw [hC] at hx; exact hx, fun i him => ?_⟩
    obtain ⟨cs', hc, ht'⟩ := hi i him
    rw [hC] at hc
    obtain ⟨ys, n', hn', hy, hlen, hyl, hf⟩ := DataW.trod_struct he ht'
    obtain ⟨_, hcl, hat⟩ := World.cells?_some hc
    simp only [Prod.mk.injEq] at hy
    refine ⟨ys, n', hy.1, hy.2, hyl, fun j f hj => ?_⟩
    obtain ⟨ho, hk⟩ := hone_of hone j f hj
    have hjl : j < fs.size := (Array.getElem?_eq_some_iff.1 hj).1
    have hcell := hat j hjl
    have hv : cs'[j]? = some (cs'[j]'(by omega)) := List.getElem?_eq_getElem (by omega)
    have h1 := hf j f hj
    rw [ho, hk] at h1
    have hone' : (cs'.drop j).take 1 = [cs'[j]'(by omega)] := by
      rw [List.drop_eq_getElem_cons (by omega)]
      rfl
    rw [hone'] at h1
    have hys : ys[j]? = some (ys[j]'(by omega)) := List.getElem?_eq_getElem (by omega)
    refine ⟨_, _, ?_, hys, h1.trans hys⟩
    rw [← Go.Deep.add_add, hcell, hv]

theorem cell_addr {w : World} {a : Addr} {v : Value} (h : w.cell? a = some v) : a.spot = none ∧ a.block < w.heap.size := by
  unfold World.cell? at h
  split at h
  · rename_i c _ _ hc
    refine ⟨?_, (Array.getElem?_eq_some_iff.1 hc).1⟩
    cases hs : a.spot with
    | none => rfl
    | some x => rw [hs] at h; simp at h
  · cases h
theorem addr_add (b o j : Nat) : (⟨b, o, none⟩ : Addr).add j = ⟨b, o + j, none⟩ := by unfold Addr.add; split <;> simp_all

/-- a list out of its elements' readings -/
theorem list_of {α : Type} (n : Nat) (p : Nat → α → Prop) (h : ∀ i, i < n → ∃ x, p i x) : ∃ l : List α, l.length = n ∧ ∀ i (hi : i < l.length), p i l[i] := by
  induction n with
  | zero => exact ⟨[], rfl, fun i hi => by simp at hi⟩
  | succ n ih =>
    obtain ⟨l, hl, hp⟩ := ih fun i hi => h i (by omega)
    obtain ⟨x, hx⟩ := h n (by omega)
    refine ⟨l ++ [x], by simp [hl], fun i hi => ?_⟩
    simp only [List.length_append, List.length_cons, List.length_nil] at hi
    by_cases e : i < l.length
    · rw [List.getElem_append_left e]; exact hp i e
    · obtain rfl : i = l.length := by omega
      simpa [hl] using hx
end
namespace It
theorem ItemsAt.mk {w : World} {lo B b o n c : Nat} {L : List Item} (hn : L.length = n) (h1 : n ≤ c) (h2 : c ≤ maxLen) (hlo : lo ≤ b) (hB : b < B)
    (h : ∀ i (hi : i < L.length), w.cell? ⟨b, o + i * 2, none⟩ = some (.string L[i].1) ∧ w.cell? ⟨b, o + i * 2 + 1, none⟩ = some (.int .i64 L[i].2)) : ItemsAt w lo B (.slice (some ⟨b, o, none⟩) n c) L := by
  subst hn
  refine ⟨itemCells_length L, _, _, rfl, h1, h2, fun _ => ⟨b, o, rfl, hlo, hB, fun j hj => ?_⟩⟩
  have hd := Nat.div_add_mod j 2
  have hm := Nat.mod_lt j (show 0 < 2 by omega)
  have hq : j / 2 < L.length := by omega
  obtain ⟨g1, g2⟩ := itemCells_get L (j / 2) hq
  obtain ⟨c1, c2⟩ := h (j / 2) hq
  rcases Nat.lt_or_ge (j % 2) 1 with hr | hr
  · obtain e : j = j / 2 * 2 := by omega
    rw [e, g1, ← c1]
  · obtain e : j = j / 2 * 2 + 1 := by omega
    rw [e, g2, ← c2]
    congr 2

set_option maxRecDepth 100000 in
theorem items_of_trod {H : Type} {enc : TypeId × Value → H} {W : World} {v : Value} {x : DataW H × List MemPlace} {held : Bool} {fuel : Nat} (hf : DataW.trod enc Tryz.prog W 0 (fun _ => true) held fuel 30 [v] = some x) :
    ∃ L : List Item, ItemsAt W 0 W.heap.size v L ∧ Fits L ∧ ((x.1 = .nil ∧ L = []) ∨ ∃ es sp, x.1 = .slice es sp ∧ es.length = L.length) := by
  rcases open_slice_fields Tryz.underlying30 Tryz.underlying37 (by kernel_rfl) (by kernel_rfl) hf with ⟨h1, h2⟩ | ⟨a, n, c, m, D, Pl, hcs, hb, hl, hm, hmm, hx, hi⟩
  · simp only [List.cons.injEq, and_true] at h1
    cases h1
    exact ⟨[], ItemsAt.nil _ _ _, (fun x hx => by cases hx), .inl ⟨by rw [h2], rfl⟩⟩
  · simp only [List.cons.injEq, and_true] at hcs
    cases hcs
    simp only [if_true] at hmm
    subst hmm
    have hel : ∀ i, i < n → ∃ x : Item, W.cell? (a.add (i * 2)) = some (.string x.1) ∧ W.cell? (a.add (i * 2 + 1)) = some (.int .i64 x.2) ∧ x.1.size ≤ maxLen ∧ -9223372036854775808 ≤ x.2 ∧ x.2 ≤ 9223372036854775807 := by
      intro i hin
      obtain ⟨ys, n', _, _, _, hf⟩ := hi i (by omega)
      obtain ⟨v0, y0, c0, _, t0⟩ := hf 0 _ rfl
      obtain ⟨v1, y1, c1, _, t1⟩ := hf 1 _ rfl
      obtain ⟨s, e0, _, hs⟩ := DataW.trod_string Tryz.underlying9 t0
      obtain ⟨k, e1, _, hk⟩ := DataW.trod_int Tryz.underlying3 t1
      simp only [List.cons.injEq, and_true] at e0 e1
      subst e0 e1
      have hkb : -9223372036854775808 ≤ k ∧ k ≤ 9223372036854775807 := by simpa [Lit.wf, IntKind.min, IntKind.max, IntKind.signed, IntKind.bits] using hk
      exact ⟨(s, k), c0, c1, hs, hkb.1, hkb.2⟩
    obtain ⟨L, hLn, hL⟩ := list_of n _ hel
    have hfit : Fits L := fun x hx => by
      obtain ⟨i, hi, rfl⟩ := List.getElem_of_mem hx
      exact (hL i hi).2.2
    refine ⟨L, ?_, hfit, .inr ⟨_, _, by rw [hx], by simp [hLn]⟩⟩
    rcases Nat.eq_zero_or_pos n with h0 | h0
    · subst h0
      obtain rfl : L = [] := List.eq_nil_of_length_eq_zero hLn
      exact ⟨rfl, _, _, rfl, hl, hm, fun h => by omega⟩
    · have h1 := cell_addr (hL 0 (by omega)).1
      obtain ⟨b, o, sp⟩ := a
      have hsp : sp = none := by
        have := h1.1
        unfold Addr.add at this
        simpa using this
      subst hsp
      have hb : b < W.heap.size := by
        have := h1.2
        rw [addr_add] at this
        exact this
      refine ItemsAt.mk hLn hl hm (Nat.zero_le _) hb fun i hi => ?_
      have := hL i hi
      rw [addr_add, addr_add] at this
      exact ⟨this.1, by rw [← this.2.1]; congr 2⟩

set_option maxRecDepth 100000 in
/-- an argument that is a slice of items -/
theorem open_items {H : Type} {enc : TypeId × Value → H} {W : World} {base : Nat} {v : Value} {d : DataW H} {p : List MemPlace} {held : Bool} (hval : Value.okWide Tryz.prog W .any base 30 v)
    (h : DataW.Trod enc Tryz.prog W 0 (fun _ => true) held 30 v d p) :
    ∃ L : List Item, ItemsAt W 0 W.heap.size v L ∧ Fits L ∧ ((d = .nil ∧ L = []) ∨ ∃ es sp, d = .slice es sp ∧ es.length = L.length) := by
  obtain ⟨A, n, c, rfl⟩ := okWide_slice Tryz.underlying30 hval
  obtain ⟨fuel, hf⟩ := h
  exact items_of_trod hf
theorem items_bytes : Tryz.prog.bytesOf 37 = 24 := by kernel_rfl
theorem items_reach {H : Type} {ts : List TypeId} {ds : List (DataW H)} {j : Nat} {d : DataW H} {L : List Item} (h : (DataW.weightsEach Tryz.prog ts ds).all (· ≤ reachBytes) = true) (ht : ts[j]? = some 30) (hd : ds[j]? = some d)
    (hx : (d = .nil ∧ L = []) ∨ ∃ es sp, d = .slice es sp ∧ es.length = L.length) : L.length * 24 ≤ 140737488351232 := by
  rcases hx with ⟨_, rfl⟩ | ⟨es, sp, rfl, hl⟩
  · simp
  · have := sized_slice h ht hd Tryz.underlying30
    rw [items_bytes] at this
    unfold reachBytes at this
    have h2 : es.length * 24 ≤ (es.length + sp.length) * 24 := Nat.mul_le_mul_right _ (Nat.le_add_right _ _)
    omega
end It
end Go.Proofs.YtdbkkldgobkjcaaGreat

namespace Go.Proofs.YtdbkkldgobkjcaaGreat
open Go.ChangeShapes Go.WideShapes Go.Deep Go.RowKit Go.ChangeAt
namespace Pc
open It

/-- a call that a law of parcels makes -/
structure OpV where
  kd : Int
  od : Int
  rg : Int
  l : List It.Item
structure OkOp (o : OpV) : Prop where
  kd : -9223372036854775808 ≤ o.kd ∧ o.kd ≤ 9223372036854775807
  od : -9223372036854775808 ≤ o.od ∧ o.od ≤ 9223372036854775807
  rg : -9223372036854775808 ≤ o.rg ∧ o.rg ≤ 9223372036854775807
  l : Fits o.l
def opC (o : OpV) (lv : Value) : List Value := [.int .i64 o.kd, .int .i64 o.od, .int .i64 o.rg, lv]

set_option maxRecDepth 100000 in
theorem op_of_trod {H : Type} {enc : TypeId × Value → H} {W : World} {cs : List Value} {x : DataW H × List MemPlace} {held : Bool} {fuel : Nat} (hf : DataW.trod enc Tryz.prog W 0 (fun _ => true) held fuel 32 cs = some x) :
    ∃ (o : OpV) (lv : Value), cs = opC o lv ∧ OkOp o ∧ ItemsAt W 0 W.heap.size lv o.l := by
  obtain ⟨ys, n, hn, hy, hlen, hyl, hfs⟩ := DataW.trod_struct Tryz.underlying32 hf
  have hl5 : cs.length = 4 := hlen.trans (by kernel_rfl)
  obtain ⟨v0, v1, v2, v3, rfl⟩ : ∃ v0 v1 v2 v3, cs = [v0, v1, v2, v3] := by
    match cs, hl5 with
    | [a, b, c, d], _ => exact ⟨a, b, c, d, rfl⟩
  have one : ∀ t, t = 3 → Tryz.prog.cellsOf t = 1 := fun t e => by subst e; kernel_rfl
  have hys : ∀ j, j < 4 → ∃ y, ys[j]? = some y := fun j hj => ⟨_, List.getElem?_eq_getElem (by rw [hyl]; exact hj)⟩
  have int_of : ∀ (j : Nat) (f : Field) (v : Value), j < 4 → f.type = 3 → DataW.trod enc Tryz.prog W 0 (fun _ => true) held n f.type [v] = ys[j]? → ∃ k : Int, v = .int .i64 k ∧ -9223372036854775808 ≤ k ∧ k ≤ 9223372036854775807 := fun j f v hj hft h => by
    obtain ⟨y, hy⟩ := hys j hj
    rw [hy, hft] at h
    obtain ⟨k, e1, _, hk⟩ := DataW.trod_int Tryz.underlying3 h
    simp only [List.cons.injEq, and_true] at e1
    subst e1
    exact ⟨k, rfl, by simpa [Lit.wf, IntKind.min, IntKind.max, IntKind.signed, IntKind.bits] using hk⟩
  have fld := fun (j : Nat) (f : Field) hj => by
    obtain ⟨ho, hk⟩ := hone_of (P := Tryz.prog) (by kernel_rfl) j f hj
    have := hfs j f hj
    rw [ho, hk] at this
    exact this
  have g0 := fld 0 _ rfl
  have g1 := fld 1 _ rfl
  have g2 := fld 2 _ rfl
  have g3 := fld 3 _ rfl
  obtain ⟨k0, rfl, b0⟩ := int_of 0 _ v0 (by omega) rfl g0
  obtain ⟨k1, rfl, b1⟩ := int_of 1 _ v1 (by omega) rfl g1
  obtain ⟨k2, rfl, b2⟩ := int_of 2 _ v2 (by omega) rfl g2
  obtain ⟨y, hy4⟩ := hys 3 (by omega)
  rw [hy4] at g3
  obtain ⟨L, h1, h2, -⟩ := items_of_trod (v := v3) g3
  exact ⟨⟨k0, k1, k2, L⟩, v3, rfl, ⟨b0, b1, b2, h2⟩, h1⟩

set_option maxRecDepth 100000 in
theorem open_op {H : Type} {enc : TypeId × Value → H} {W : World} {base : Nat} {v : Value} {d : DataW H} {p : List MemPlace} {held : Bool} (hval : Value.okWide Tryz.prog W .any base 32 v)
    (h : DataW.Trod enc Tryz.prog W 0 (fun _ => true) held 32 v d p) :
    ∃ (o : OpV) (lv : Value), v = .agg (opC o lv).toArray ∧ OkOp o ∧ ItemsAt W 0 W.heap.size lv o.l := by
  obtain ⟨cs, rfl, -⟩ := okWide_struct Tryz.underlying32 hval
  obtain ⟨fuel, hf⟩ := h
  obtain ⟨o, lv, e, h1, h2⟩ := op_of_trod hf
  refine ⟨o, lv, ?_, h1, h2⟩
  congr 1
  rw [← e]
  simp [Value.cells]

/-- a slice of ops, all below B -/
def OpsAt (w : World) (B : Nat) (v : Value) (os : List OpV) : Prop :=
  ∃ A c, v = .slice A os.length c ∧ os.length ≤ c ∧ c ≤ maxLen ∧ ∀ j (h : j < os.length), ∃ b p lv, A = some ⟨b, p, none⟩ ∧ b < B ∧ ItemsAt w 0 B lv os[j].l ∧ ∀ i v, (opC os[j] lv)[i]? = some v → w.cell? ⟨b, p + j * 4 + i, none⟩ = some v
theorem OpsAt.below {w w' : World} {B : Nat} {v : Value} {os : List OpV} (h : OpsAt w B v os) (hb : Below B w w') : OpsAt w' B v os := by
  obtain ⟨A, c, e, h1, h2, h3⟩ := h
  refine ⟨A, c, e, h1, h2, fun j hj => ?_⟩
  obtain ⟨b, p, lv, ea, hbB, hI, hc⟩ := h3 j hj
  exact ⟨b, p, lv, ea, hbB, hI.below hb, fun i v hv => (hb.cell (p := ⟨b, p + j * 4 + i, none⟩) hbB).trans (hc i v hv)⟩
theorem OpsAt.form {w : World} {B : Nat} {v : Value} {os : List OpV} (h : OpsAt w B v os) : ∃ A c, v = .slice A os.length c ∧ os.length ≤ c ∧ c ≤ maxLen := by
  obtain ⟨A, c, e, h1, h2, -⟩ := h
  exact ⟨A, c, e, h1, h2⟩
theorem OpsAt.at_ {w : World} {B n c j : Nat} {A : Option Addr} {os : List OpV} (h : OpsAt w B (.slice A n c) os) (hj : j < os.length) : ∃ b p lv, A = some ⟨b, p, none⟩ ∧ b < B ∧ ItemsAt w 0 B lv os[j].l ∧
    w.cell? ⟨b, p + j * 4, none⟩ = some (.int .i64 os[j].kd) ∧ w.cell? ⟨b, p + j * 4 + 1, none⟩ = some (.int .i64 os[j].od) ∧ w.cell? ⟨b, p + j * 4 + 2, none⟩ = some (.int .i64 os[j].rg) ∧ w.cell? ⟨b, p + j * 4 + 3, none⟩ = some lv := by
  obtain ⟨A', c', e, h1, h2, h3⟩ := h
  cases e
  obtain ⟨b, p, lv, ea, hbB, hI, hc⟩ := h3 j hj
  exact ⟨b, p, lv, ea, hbB, hI, hc 0 _ rfl, hc 1 _ rfl, hc 2 _ rfl, hc 3 _ rfl⟩

set_option maxRecDepth 100000 in
/-- an argument that is a slice of ops -/
theorem open_ops {H : Type} {enc : TypeId × Value → H} {W : World} {base : Nat} {v : Value} {d : DataW H} {p : List MemPlace} {held : Bool} (hval : Value.okWide Tryz.prog W .any base 22 v)
    (h : DataW.Trod enc Tryz.prog W 0 (fun _ => true) held 22 v d p) :
    ∃ os : List OpV, OpsAt W W.heap.size v os ∧ (∀ o ∈ os, OkOp o) ∧ ((d = .nil ∧ os = []) ∨ ∃ es sp, d = .slice es sp ∧ es.length = os.length) := by
  obtain ⟨A, n, c, rfl⟩ := okWide_slice Tryz.underlying22 hval
  obtain ⟨fuel, hf⟩ := h
  have hC : Tryz.prog.cellsOf 32 = 4 := by kernel_rfl
  rcases open_slice Tryz.underlying22 hf with h0 | ⟨a, len, cap, m, k, D, Pl, hcs, hb, hl, hm, hmm, hx, hi⟩
  · obtain ⟨h1, h2⟩ := h0
    simp only [Value.cells, List.cons.injEq, and_true] at h1
    cases h1
    simp only [Prod.mk.injEq] at h2
    exact ⟨[], ⟨none, 0, rfl, Nat.le_refl _, by unfold maxLen; omega, fun j hj => by simp at hj⟩, (fun x hx => by cases hx), .inl ⟨h2.1, rfl⟩⟩
  · simp only [Value.cells, List.cons.injEq, and_true] at hcs
    cases hcs
    simp only [if_true] at hmm
    subst hmm
    simp only [Prod.mk.injEq] at hx
    rw [hC] at hi
    have hel : ∀ i, i < n → ∃ x : OpV, OkOp x ∧ ∃ lv, ItemsAt W 0 W.heap.size lv x.l ∧ ∀ j v, (opC x lv)[j]? = some v → W.cell? (a.add (i * 4 + j)) = some v := by
      intro i hin
      obtain ⟨cs', hc, ht'⟩ := hi i (by omega)
      obtain ⟨_, hcl, hat⟩ := World.cells?_some hc
      obtain ⟨o, lv, e, h1, h2⟩ := op_of_trod ht'
      refine ⟨o, h1, lv, h2, fun j v hv => ?_⟩
      have hj : j < 4 := by
        have := (List.getElem?_eq_some_iff.1 hv).1
        simpa [opC] using this
      have hcell := hat (i := j) (by omega)
      rw [← Go.Deep.add_add, hcell, e]
      exact hv
    obtain ⟨os, hLn, hL⟩ := list_of n _ hel
    refine ⟨os, ?_, fun x hx => ?_, .inr ⟨_, _, hx.1, by simp [hLn]⟩⟩
    · subst hLn
      refine ⟨_, _, rfl, hl, hm, fun j hj => ?_⟩
      obtain ⟨_, lv, hI, hc⟩ := hL j hj
      obtain ⟨_, lv0, -, hc0⟩ := hL 0 (by omega)
      have h1 := cell_addr (hc0 0 _ rfl)
      obtain ⟨b, o, sp⟩ := a
      have hsp : sp = none := by
        have := h1.1
        unfold Addr.add at this
        simpa using this
      subst hsp
      have hb : b < W.heap.size := by
        have := h1.2
        rw [addr_add] at this
        exact this
      refine ⟨b, o, lv, rfl, hb, hI, fun i v hv => ?_⟩
      have := hc i v hv
      rw [addr_add] at this
      rw [← this]
      congr 2
      omega
    · obtain ⟨i, hi, rfl⟩ := List.getElem_of_mem hx
      exact (hL i hi).1
end Pc
end Go.Proofs.YtdbkkldgobkjcaaGreat
