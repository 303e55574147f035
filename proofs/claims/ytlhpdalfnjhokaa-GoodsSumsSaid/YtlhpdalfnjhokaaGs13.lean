/-
  Arguments opened: the ops of the laws of stocks, slices of them, slices of such slices.
  The laws: lives.
  some stocks and the slice that points to them.
  The law Nobody.
  stocks: the program's and the document's, with which the same was done.
  A region that draws its order, inside a round of a range over an iterator, whose operations may come in any order: each keeps what is known of the world.
-/
import Derived.Test.YtlhpdalfnjhokaaGs12
import Derived.Test.YtlhpdalfnjhokaaGs7
import Derived.Test.YtlhpdalfnjhokaaGs4
import Derived.Test.YtlhpdalfnjhokaaGs6
import Derived.Test.YtlhpdalfnjhokaaGs2

set_option linter.unusedVariables false
set_option linter.unusedSimpArgs false
namespace Go.Proofs.Ytlhpdalfnjhokaa
open Go.ChangeShapes Go.WideShapes Go.Deep Go.RowKit Go.ChangeAt
namespace Sk
open It
/-- a call that a law of stocks makes -/
structure OpV where
  kd : Int
  l : List It.Item
  g : ByteArray
  n : Int
structure OkOp (o : OpV) : Prop where
  kd : -9223372036854775808 ≤ o.kd ∧ o.kd ≤ 9223372036854775807
  l : Fits o.l
  g : o.g.size ≤ maxLen
  n : -9223372036854775808 ≤ o.n ∧ o.n ≤ 9223372036854775807
def opC (o : OpV) (lv : Value) : List Value := [.int .i64 o.kd, lv, .string o.g, .int .i64 o.n]
section
variable {H : Type} {enc : TypeId × Value → H} {W : World} {held : Bool} {fuel : Nat}
set_option maxRecDepth 100000 in
theorem op_of_trod {cs : List Value} {x : DataW H × List MemPlace} (hf : DataW.trod enc Try.prog W 0 (fun _ => true) held fuel 57 cs = some x) :
    ∃ (o : OpV) (lv : Value), cs = opC o lv ∧ OkOp o ∧ ItemsAt W 0 W.heap.size lv o.l := by
  obtain ⟨ys, n, hn, hy, hlen, hyl, hfs⟩ := DataW.trod_struct Try.underlying57 hf
  have hl4 : cs.length = 4 := hlen.trans (by kernel_rfl)
  obtain ⟨v0, v1, v2, v3, rfl⟩ : ∃ v0 v1 v2 v3, cs = [v0, v1, v2, v3] := by
    match cs, hl4 with
    | [a, b, c, d], _ => exact ⟨a, b, c, d, rfl⟩
  have hys : ∀ j, j < 4 → ∃ y, ys[j]? = some y := fun j hj => ⟨_, List.getElem?_eq_getElem (by rw [hyl]; exact hj)⟩
  have fld := fun (j : Nat) (f : Field) hj => by
    obtain ⟨ho, hk⟩ := hone_of (P := Try.prog) (by kernel_rfl) j f hj
    have := hfs j f hj
    rw [ho, hk] at this
    exact this
  have g0 := fld 0 _ rfl
  have g1 := fld 1 _ rfl
  have g2 := fld 2 _ rfl
  have g3 := fld 3 _ rfl
  obtain ⟨y0, e0⟩ := hys 0 (by omega)
  obtain ⟨y1, e1⟩ := hys 1 (by omega)
  obtain ⟨y2, e2⟩ := hys 2 (by omega)
  obtain ⟨y3, e3⟩ := hys 3 (by omega)
  rw [e0] at g0
  rw [e1] at g1
  rw [e2] at g2
  rw [e3] at g3
  obtain ⟨k0, c0, _, hk0⟩ := DataW.trod_int Try.underlying3 (show DataW.trod enc Try.prog W 0 (fun _ => true) held n 3 [v0] = some y0 from g0)
  obtain ⟨L, h1, h2, -⟩ := items_of_trod (v := v1) g1
  obtain ⟨g, c2, -, hg⟩ := DataW.trod_string Try.underlying9 (show DataW.trod enc Try.prog W 0 (fun _ => true) held n 9 [v2] = some y2 from g2)
  obtain ⟨k3, c3, _, hk3⟩ := DataW.trod_int Try.underlying3 (show DataW.trod enc Try.prog W 0 (fun _ => true) held n 3 [v3] = some y3 from g3)
  simp only [List.cons.injEq, and_true] at c0 c2 c3
  subst c0 c2 c3
  refine ⟨⟨k0, L, g, k3⟩, v1, rfl, ⟨?_, h2, hg, ?_⟩, h1⟩
  · simpa [Lit.wf, IntKind.min, IntKind.max, IntKind.signed, IntKind.bits] using hk0
  · simpa [Lit.wf, IntKind.min, IntKind.max, IntKind.signed, IntKind.bits] using hk3
/-- a slice of ops, all below B -/
def OpsAt (w : World) (B : Nat) (v : Value) (os : List OpV) : Prop :=
  ∃ A c, v = .slice A os.length c ∧ os.length ≤ c ∧ c ≤ maxLen ∧ ∀ j (h : j < os.length), ∃ b p lv, A = some ⟨b, p, none⟩ ∧ b < B ∧ ItemsAt w 0 B lv os[j].l ∧ ∀ i v, (opC os[j] lv)[i]? = some v → w.cell? ⟨b, p + j * 4 + i, none⟩ = some v
theorem OpsAt.below {w w' : World} {B : Nat} {v : Value} {os : List OpV} (h : OpsAt w B v os) (hb : Below B w w') : OpsAt w' B v os := by
  obtain ⟨A, c, e, h1, h2, h3⟩ := h
  refine ⟨A, c, e, h1, h2, fun j hj => ?_⟩
  obtain ⟨b, p, lv, ea, hbB, hI, hc⟩ := h3 j hj
  exact ⟨b, p, lv, ea, hbB, hI.below hb, fun i v hv => (hb.cell (p := ⟨b, p + j * 4 + i, none⟩) hbB).trans (hc i v hv)⟩
theorem OpsAt.form {w : World} {B : Nat} {v : Value} {os : List OpV} (h : OpsAt w B v os) : ∃ A c, v = .slice A os.length c ∧ os.length ≤ c ∧ c ≤ maxLen := by
  obtain ⟨A, c, e, h1, h2, -⟩ := h
  exact ⟨A, c, e, h1, h2⟩
theorem OpsAt.at_ {w : World} {B n c j : Nat} {A : Option Addr} {os : List OpV} (h : OpsAt w B (.slice A n c) os) (hj : j < os.length) : ∃ b p lv, A = some ⟨b, p, none⟩ ∧ b < B ∧ ItemsAt w 0 B lv os[j].l ∧
    w.cell? ⟨b, p + j * 4, none⟩ = some (.int .i64 os[j].kd) ∧ w.cell? ⟨b, p + j * 4 + 1, none⟩ = some lv ∧ w.cell? ⟨b, p + j * 4 + 2, none⟩ = some (.string os[j].g) ∧ w.cell? ⟨b, p + j * 4 + 3, none⟩ = some (.int .i64 os[j].n) := by
  obtain ⟨A', c', e, h1, h2, h3⟩ := h
  cases e
  obtain ⟨b, p, lv, ea, hbB, hI, hc⟩ := h3 j hj
  exact ⟨b, p, lv, ea, hbB, hI, hc 0 _ rfl, hc 1 _ rfl, hc 2 _ rfl, hc 3 _ rfl⟩
theorem ops_of_trod {v : Value} {x : DataW H × List MemPlace} (hf : DataW.trod enc Try.prog W 0 (fun _ => true) held fuel 52 [v] = some x) :
    ∃ os : List OpV, OpsAt W W.heap.size v os ∧ (∀ o ∈ os, OkOp o) ∧ ((x.1 = .nil ∧ os = []) ∨ ∃ es sp, x.1 = .slice es sp ∧ es.length = os.length) := by
  obtain ⟨A, n, c, rfl, h1, h2, h3, h4⟩ := slice_of_trod Try.underlying52 (show Try.prog.cellsOf 57 = 4 by kernel_rfl) (by omega) hf
  have hel : ∀ i, i < n → ∃ x : OpV, OkOp x ∧ ∃ b p lv, A = some ⟨b, p, none⟩ ∧ b < W.heap.size ∧ ItemsAt W 0 W.heap.size lv x.l ∧ ∀ j v, (opC x lv)[j]? = some v → W.cell? ⟨b, p + i * 4 + j, none⟩ = some v := by
    intro i hin
    obtain ⟨b, o, cs, y, f', ea, hbW, hcl, hat, ht⟩ := h3 i hin
    obtain ⟨op, lv, e, k1, k2⟩ := op_of_trod ht
    subst e
    exact ⟨op, k1, b, o, lv, ea, hbW, k2, hat⟩
  obtain ⟨os, hLn, hL⟩ := list_of n _ hel
  subst hLn
  refine ⟨os, ⟨A, c, rfl, h1, h2, fun j hj => (hL j hj).2⟩, fun o ho => ?_, ?_⟩
  · obtain ⟨i, hi, rfl⟩ := List.getElem_of_mem ho
    exact (hL i hi).1
  · rcases h4 with ⟨h5, h6⟩ | h5
    · exact .inl ⟨h5, List.eq_nil_of_length_eq_zero h6⟩
    · exact .inr h5
/-- a slice of slices of ops -/
def OpssAt (w : World) (B : Nat) (v : Value) (ls : List (List OpV)) : Prop :=
  ∃ A c, v = .slice A ls.length c ∧ ls.length ≤ c ∧ c ≤ maxLen ∧ ∀ j (h : j < ls.length), ∃ b p v', A = some ⟨b, p, none⟩ ∧ b < B ∧ w.cell? ⟨b, p + j, none⟩ = some v' ∧ OpsAt w B v' ls[j]
theorem OpssAt.below {w w' : World} {B : Nat} {v : Value} {ls : List (List OpV)} (h : OpssAt w B v ls) (hb : Below B w w') : OpssAt w' B v ls := by
  obtain ⟨A, c, e, h1, h2, h3⟩ := h
  refine ⟨A, c, e, h1, h2, fun j hj => ?_⟩
  obtain ⟨b, p, v', ea, hbB, hc, ho⟩ := h3 j hj
  exact ⟨b, p, v', ea, hbB, (hb.cell (p := ⟨b, p + j, none⟩) hbB).trans hc, ho.below hb⟩
theorem opss_of_trod {v : Value} {x : DataW H × List MemPlace} (hf : DataW.trod enc Try.prog W 0 (fun _ => true) held fuel 44 [v] = some x) :
    ∃ ls : List (List OpV), OpssAt W W.heap.size v ls ∧ (∀ l ∈ ls, ∀ o ∈ l, OkOp o) := by
  obtain ⟨A, n, c, rfl, h1, h2, h3, h4⟩ := slice_of_trod Try.underlying44 (show Try.prog.cellsOf 52 = 1 by kernel_rfl) (by omega) hf
  have hel : ∀ i, i < n → ∃ l : List OpV, (∀ o ∈ l, OkOp o) ∧ ∃ b p v', A = some ⟨b, p, none⟩ ∧ b < W.heap.size ∧ W.cell? ⟨b, p + i, none⟩ = some v' ∧ OpsAt W W.heap.size v' l := by
    intro i hin
    obtain ⟨b, o, cs, y, f', ea, hbW, hcl, hat, ht⟩ := h3 i hin
    obtain ⟨v', rfl⟩ := List.length_eq_one_iff.1 hcl
    obtain ⟨l, k1, k2, -⟩ := ops_of_trod ht
    have hc := hat 0 _ rfl
    rw [Nat.mul_one, Nat.add_zero] at hc
    exact ⟨l, k2, b, o, v', ea, hbW, hc, k1⟩
  obtain ⟨ls, hLn, hL⟩ := list_of n _ hel
  subst hLn
  refine ⟨ls, ⟨A, c, rfl, h1, h2, fun j hj => (hL j hj).2⟩, fun l hl => ?_⟩
  obtain ⟨i, hi, rfl⟩ := List.getElem_of_mem hl
  exact (hL i hi).1
theorem ints_of_trod1 {v : Value} {x : DataW H × List MemPlace} (hf : DataW.trod enc Try.prog W 0 (fun _ => true) held fuel 42 [v] = some x) :
    ∃ l : List Int, IntsAt W 0 W.heap.size v l ∧ ∀ k ∈ l, -9223372036854775808 ≤ k ∧ k ≤ 9223372036854775807 := by
  obtain ⟨A, n, c, rfl, h1, h2, h3, -⟩ := slice_of_trod Try.underlying42 (show Try.prog.cellsOf 3 = 1 by kernel_rfl) (by omega) hf
  have hel : ∀ i, i < n → ∃ k : Int, (-9223372036854775808 ≤ k ∧ k ≤ 9223372036854775807) ∧ ∃ b p, A = some ⟨b, p, none⟩ ∧ b < W.heap.size ∧ W.cell? ⟨b, p + i, none⟩ = some (.int .i64 k) := by
    intro i hin
    obtain ⟨b, o, cs, y, f', ea, hbW, hcl, hat, ht⟩ := h3 i hin
    obtain ⟨k0, c0, _, hk0⟩ := DataW.trod_int Try.underlying3 ht
    subst c0
    have hc := hat 0 _ rfl
    rw [Nat.mul_one, Nat.add_zero] at hc
    exact ⟨k0, by simpa [Lit.wf, IntKind.min, IntKind.max, IntKind.signed, IntKind.bits] using hk0, b, o, ea, hbW, hc⟩
  obtain ⟨l, hLn, hL⟩ := list_of n _ hel
  subst hLn
  refine ⟨l, ?_, fun k hk => ?_⟩
  · refine ⟨by simp [ints], A, c, rfl, h1, h2, fun h => ?_⟩
    obtain ⟨-, b, p, ea, hb, -⟩ := hL 0 h
    refine ⟨b, p, ea, Nat.zero_le _, hb, fun j hj => ?_⟩
    rw [Nat.mul_one] at hj
    obtain ⟨-, b', p', ea', -, hc⟩ := hL j hj
    rw [ea] at ea'
    cases ea'
    rw [hc]
    simp [ints, hj]
  · obtain ⟨i, hi, rfl⟩ := List.getElem_of_mem hk
    exact (hL i hi).1
end
section
variable {H : Type} {enc : TypeId × Value → H} {W : World} {v : Value} {d : DataW H} {p : List MemPlace} {held : Bool}
theorem open_ops (h : DataW.Trod enc Try.prog W 0 (fun _ => true) held 52 v d p) (hs : ∃ A n c, v = .slice A n c) : ∃ os : List OpV, OpsAt W W.heap.size v os ∧ (∀ o ∈ os, OkOp o) := by
  obtain ⟨A, n, c, rfl⟩ := hs
  obtain ⟨fuel, hf⟩ := h
  obtain ⟨os, h1, h2, -⟩ := ops_of_trod hf
  exact ⟨os, h1, h2⟩
theorem open_opss (h : DataW.Trod enc Try.prog W 0 (fun _ => true) held 44 v d p) (hs : ∃ A n c, v = .slice A n c) : ∃ ls : List (List OpV), OpssAt W W.heap.size v ls ∧ (∀ l ∈ ls, ∀ o ∈ l, OkOp o) := by
  obtain ⟨A, n, c, rfl⟩ := hs
  obtain ⟨fuel, hf⟩ := h
  exact opss_of_trod hf
theorem open_ints1 (h : DataW.Trod enc Try.prog W 0 (fun _ => true) held 42 v d p) (hs : ∃ A n c, v = .slice A n c) : ∃ l : List Int, IntsAt W 0 W.heap.size v l ∧ ∀ k ∈ l, -9223372036854775808 ≤ k ∧ k ≤ 9223372036854775807 := by
  obtain ⟨A, n, c, rfl⟩ := hs
  obtain ⟨fuel, hf⟩ := h
  exact ints_of_trod1 hf
end
end Sk
end Go.Proofs.Ytlhpdalfnjhokaa

namespace Go.Proofs.Ytlhpdalfnjhokaa
open Go.RowKit Go.Maps
namespace Sk
open It Al Kp
attribute [local go_sem] Oper.semAt_some
/-- the letter a -/
def aL : ByteArray := ⟨#[97]⟩
def sA1 : Stk := [([97], [5, 0, 0, 0, 5, 0, 0, 0, 0, 0, 0])]
def sA2 : Stk := [([97], [3, 0, 0, 0, 5, 0, 0, 0, 0, 0, 2])]
theorem do_one : doS [] 1 [(aL, 5)] = (sA1, 0) := by decide +kernel
theorem do_two : doS sA1 10 [(aL, 2)] = (sA2, 0) := by decide +kernel
theorem tot_A : totR [sA2, []] [97] = [3, 0, 0, 0, 5, 0, 0, 0, 0, 0, 2] := by decide +kernel
theorem totV_A : totV ⟨#[97]⟩ [sA2, []] = .agg #[.string ⟨#[97]⟩, .int .i64 3, .int .i64 0, .int .i64 0, .int .i64 0, .int .i64 5, .int .i64 0, .int .i64 0, .int .i64 0, .int .i64 0, .int .i64 0, .int .i64 2, .int .i64 2] := by
  unfold totV totC
  rw [show (⟨#[97]⟩ : ByteArray).data.toList = [97] from rfl, tot_A, show wayT [3, 0, 0, 0, 5, 0, 0, 0, 0, 0, 2] = 2 by decide +kernel]
  rfl
theorem keys_A : allKeys [sA2, []] = [[97]] := by decide +kernel
theorem all_A : allS [sA2, []] = true := by decide +kernel
theorem neq_nilG (b : Nat) (w : World) : (binOp .neq 35 (.func (.func 25) #[] #[.pointer (some ⟨b, 0, none⟩)]) .nilFunc).run Try.prog w = .ok (.bool true) w := by kernel_rfl
theorem eql_nilG (b : Nat) (w : World) : (binOp .eql 35 (.func (.func 25) #[] #[.pointer (some ⟨b, 0, none⟩)]) .nilFunc).run Try.prog w = .ok (.bool false) w := by kernel_rfl
theorem free_field (a0 a1 a2 a3 : Int) (W : World) : (Instr.field 23 (.agg #[.int .i64 a0, .int .i64 a1, .int .i64 a2, .int .i64 a3]) 0).run Try.prog W = .ok (.int .i64 a0) W := by kernel_rfl
theorem fits_one : Fits [(aL, 5)] := by
  intro x hx
  simp only [List.mem_singleton] at hx
  subst hx
  exact ⟨by decide +kernel, by decide, by decide⟩
theorem fits_two : Fits [(aL, 2)] := by
  intro x hx
  simp only [List.mem_singleton] at hx
  subst hx
  exact ⟨by decide +kernel, by decide, by decide⟩
/-- some stocks, each with its own blocks -/
structure Many (w : World) (base : Nat) (cs : List (Nat × Nat)) (ss : List Stk) : Prop where
  len : cs.length = ss.length
  at_ : ∀ (i : Nat) (c : Nat × Nat) (s : Stk), cs[i]? = some c → ss[i]? = some s → StkAt w base c.1 c.2 s
  apart : ∀ (i j : Nat) (c d : Nat × Nat), cs[i]? = some c → cs[j]? = some d → i ≠ j → c.1 ≠ d.1 ∧ c.1 ≠ d.2
section
variable {w w' : World} {base : Nat} {cs : List (Nat × Nat)} {ss : List Stk}
theorem Many.nil (w : World) (base : Nat) : Many w base [] [] := ⟨rfl, fun i c s h => by simp at h, fun i j c d h => by simp at h⟩
theorem Many.same (h : Many w base cs ss) (hb : Below w.heap.size w w') : Many w' base cs ss := ⟨h.len, fun i c s h1 h2 => (h.at_ i c s h1 h2).same hb, h.apart⟩
theorem Many.get {c : Nat × Nat} (h : Many w base cs ss) (i : Nat) (hi : cs[i]? = some c) : ∃ s, ss[i]? = some s ∧ StkAt w base c.1 c.2 s := by
  have hl := (List.getElem?_eq_some_iff.1 hi).1
  have h2 : i < ss.length := by rw [← h.len]; exact hl
  exact ⟨ss[i], List.getElem?_eq_getElem h2, h.at_ i c _ hi (List.getElem?_eq_getElem h2)⟩
theorem Many.lt {c : Nat × Nat} (h : Many w base cs ss) {i : Nat} (hi : cs[i]? = some c) : c.1 < w.heap.size ∧ c.2 < w.heap.size := by
  obtain ⟨s, -, h2⟩ := h.get i hi
  exact ⟨h2.ob.lt, h2.map.lt⟩
theorem Many.snoc {b mb : Nat} {s : Stk} (h : Many w base cs ss) (hb : Below w.heap.size w w') (h2 : StkAt w' w.heap.size b mb s) (hbase : base ≤ w.heap.size) : Many w' base (cs ++ [(b, mb)]) (ss ++ [s]) := by
  have hlo := h2.lo
  have hsplit : ∀ {α : Type} (l : List α) (x : α) (i : Nat) (y : α), (l ++ [x])[i]? = some y → (i < l.length ∧ l[i]? = some y) ∨ (i = l.length ∧ y = x) := by
    intro α l x i y h
    rcases Nat.lt_or_ge i l.length with hl | hl
    · rw [List.getElem?_append_left hl] at h
      exact .inl ⟨hl, h⟩
    · rw [List.getElem?_append_right hl] at h
      have := (List.getElem?_eq_some_iff.1 h).1
      simp only [List.length_cons, List.length_nil] at this
      have he : i = l.length := by omega
      subst he
      simp only [Nat.sub_self, List.getElem?_cons_zero, Option.some.injEq] at h
      exact .inr ⟨rfl, h.symm⟩
  refine ⟨by simp [h.len], fun i c t h1 h3 => ?_, fun i j c d h1 h3 hij => ?_⟩
  · rcases hsplit _ _ _ _ h1 with ⟨k1, k2⟩ | ⟨rfl, rfl⟩
    · rcases hsplit _ _ _ _ h3 with ⟨k3, k4⟩ | ⟨k3, k4⟩
      · exact (h.at_ i c t k2 k4).same hb
      · have := h.len
        omega
    · rcases hsplit _ _ _ _ h3 with ⟨k3, k4⟩ | ⟨k3, rfl⟩
      · have := h.len
        omega
      · exact ⟨h2.ob, h2.map, h2.ok, h2.ne, ⟨Nat.le_trans hbase hlo.1, Nat.le_trans hbase hlo.2⟩, h2.len⟩
  · rcases hsplit _ _ _ _ h1 with ⟨k1, k2⟩ | ⟨k1, rfl⟩
    · rcases hsplit _ _ _ _ h3 with ⟨k3, k4⟩ | ⟨k3, rfl⟩
      · exact h.apart i j c d k2 k4 hij
      · have := h.lt k2
        exact ⟨by dsimp only; omega, by dsimp only; omega⟩
    · rcases hsplit _ _ _ _ h3 with ⟨k3, k4⟩ | ⟨k3, rfl⟩
      · have := h.lt k4
        exact ⟨by dsimp only; omega, by dsimp only; omega⟩
      · omega
theorem Many.put {b mb mb' : Nat} {s' : Stk} {i : Nat} (h : Many w base cs ss) (hi : cs[i]? = some (b, mb)) (h2 : StkAt w' base b mb' s') (hm : mb' = mb ∨ w.heap.size ≤ mb') (hk : DoKept b w w') : Many w' base (cs.set i (b, mb')) (ss.set i s') := by
  refine ⟨by simp [h.len], fun j c t h1 h3 => ?_, fun j k c d h1 h3 hjk => ?_⟩
  · rw [List.getElem?_set] at h1 h3
    by_cases hij : i = j
    · subst hij
      have hl := (List.getElem?_eq_some_iff.1 hi).1
      have hl2 : i < ss.length := by rw [← h.len]; exact hl
      simp only [if_pos, hl, hl2, Option.some.injEq] at h1 h3
      subst h1 h3
      exact h2
    · rw [if_neg hij] at h1 h3
      have ha := h.apart i j _ _ hi h1 hij
      have hl := h.lt h1
      exact (h.at_ j c t h1 h3).kept hk ⟨hl.1, fun e => ha.1 e.symm⟩ ⟨hl.2, fun e => ha.2 e.symm⟩
  · rw [List.getElem?_set] at h1 h3
    have hli := h.lt hi
    by_cases hij : i = j
    · subst hij
      rw [if_neg hjk] at h3
      have hl := (List.getElem?_eq_some_iff.1 hi).1
      simp only [if_pos, hl, Option.some.injEq] at h1
      subst h1
      have ha := h.apart i k _ _ hi h3 hjk
      exact ⟨ha.1, ha.2⟩
    · rw [if_neg hij] at h1
      by_cases hik : i = k
      · subst hik
        have hl := (List.getElem?_eq_some_iff.1 hi).1
        simp only [if_pos, hl, Option.some.injEq] at h3
        subst h3
        have ha := h.apart j i _ _ h1 hi hjk
        have hlj := h.lt h1
        exact ⟨ha.1, hm.elim (fun e => e ▸ ha.2) (fun e => by dsimp only; omega)⟩
      · rw [if_neg hik] at h3
        exact h.apart j k _ _ h1 h3 hjk
theorem Many.sts {v : Value} (h : Many w base cs ss) (hs : Sl w 0 w.heap.size 1 v ss.length (cs.map fun c => .pointer (some ⟨c.1, 0, none⟩))) : StsAt w base v ss := by
  refine ⟨_, by simp [h.len], hs, fun i hi => ?_⟩
  have hc : i < cs.length := by rw [h.len]; exact hi
  have hci := List.getElem?_eq_getElem hc
  refine ⟨.pointer (some ⟨cs[i].1, 0, none⟩), by rw [List.getElem?_map, hci]; rfl, .inr ⟨cs[i].1, cs[i].2, rfl, h.at_ i _ _ hci (List.getElem?_eq_getElem hi)⟩⟩
end
set_option maxRecDepth 100000 in
set_option maxHeartbeats 8000000 in
theorem lives_calls (w : World) : Calls Try.prog 8 #[] w fun e w' => e = .returned (.bool true) ∧ Below w.heap.size w w' := by
  have hnq := neq_nilG
  have hfld := free_field
  go_enter Try.func8, Try.ntmps8
  go_wp2_with fail
  refine (new_calls _).mono ?_
  rintro e w1 ⟨⟨b1, mb1, rfl, h1⟩, hb1⟩
  go_wp2_with fail
  refine (new_calls _).mono ?_
  rintro e w2 ⟨⟨b2, mb2, rfl, h2⟩, hb2⟩
  have M2 : Many w2 w.heap.size [(b1, mb1), (b2, mb2)] [[], []] := ((Many.nil w w.heap.size).snoc hb1 h1 (Nat.le_refl _)).snoc hb2 h2 hb1.size
  have HB2 := Lib.hid (hb1.trans (hb2.mono hb1.size))
  have hl1 := (M2.lt (i := 0) rfl).1
  have hl2 := (M2.lt (i := 1) rfl).1
  have hg1 := h1.lo.1
  have hs0 := hb1.size
  have hs2 := hb2.size
  clear hb1 hb2 h1 h2
  go_wp2_with fail
  have hS3 := Sl.new w2 #[.pointer (some ⟨b1, 0, none⟩), .pointer (some ⟨b2, 0, none⟩)] 53 (n := 2) (size := 1) rfl (by unfold maxLen; omega)
  have ha3 := (Below.refl w2.heap.size w2).alloc (Nat.le_refl _) (.cells #[.pointer (some ⟨b1, 0, none⟩), .pointer (some ⟨b2, 0, none⟩)] 53)
  have M3 := M2.same ha3
  have HB3 := Lib.hid (HB2.out.trans (ha3.mono HB2.out.size))
  have hs3 : (w2.alloc (.cells #[.pointer (some ⟨b1, 0, none⟩), .pointer (some ⟨b2, 0, none⟩)] 53)).heap.size = w2.heap.size + 1 := by simp
  generalize w2.alloc (.cells #[.pointer (some ⟨b1, 0, none⟩), .pointer (some ⟨b2, 0, none⟩)] 53) = w3 at *
  clear M2 ha3
  have hI4 := Sl.new w3 #[.string ⟨#[97]⟩, .int .i64 5] 64 (n := 1) (size := 2) rfl (by unfold maxLen; omega)
  have ha4 := (Below.refl w3.heap.size w3).alloc (Nat.le_refl _) (.cells #[.string ⟨#[97]⟩, .int .i64 5] 64)
  have M4 := M3.same ha4
  have hS4 := hS3.mono (B' := w2.heap.size + 1) (ha4.mono (by omega)) (Nat.le_refl _)
  have HB4 := Lib.hid (HB3.out.trans (ha4.mono HB3.out.size))
  have hs4 : (w3.alloc (.cells #[.string ⟨#[97]⟩, .int .i64 5] 64)).heap.size = w3.heap.size + 1 := by simp
  clear M3 ha4 hS3
  rw [← hs3]
  generalize w3.alloc (.cells #[.string ⟨#[97]⟩, .int .i64 5] 64) = w4 at *
  have cD := do_calls (M4.at_ 0 _ _ rfl rfl) 1 [(aL, 5)] (.slice (some ⟨w3.heap.size, 0, none⟩) 1 1) (ItemsAt.wide (lo := w3.heap.size) (B := w3.heap.size + 1) hI4 (Nat.zero_le _) (by omega)) fits_one
  rw [do_one] at cD
  refine cD.mono ?_
  clear cD hI4
  rintro e w5 ⟨rfl, ⟨mb5, h5, hm5⟩, hk5⟩
  have M5 : Many w5 w.heap.size [(b1, mb5), (b2, mb2)] [sA1, []] := M4.put (i := 0) rfl h5 hm5 hk5
  have hS5 := hk5.sl hS4 (fun i h1 h2 => ⟨by omega, by dsimp only; omega⟩)
  have HB5 := Lib.hid (HB4.out.trans (hk5.below (B := w.heap.size) (fun i hi => ⟨by have := HB4.out.size; omega, by dsimp only; omega⟩)))
  have hs5 := hk5.size
  clear M4 hS4 h5 hm5 hk5
  go_wp2_with fail
  have hI6 := Sl.new w5 #[.string ⟨#[97]⟩, .int .i64 2] 64 (n := 1) (size := 2) rfl (by unfold maxLen; omega)
  have ha6 := (Below.refl w5.heap.size w5).alloc (Nat.le_refl _) (.cells #[.string ⟨#[97]⟩, .int .i64 2] 64)
  have M6 := M5.same ha6
  have hS6 := hS5.mono (B' := w2.heap.size + 1) (ha6.mono (by omega)) (Nat.le_refl _)
  have HB6 := Lib.hid (HB5.out.trans (ha6.mono HB5.out.size))
  have hs6 : (w5.alloc (.cells #[.string ⟨#[97]⟩, .int .i64 2] 64)).heap.size = w5.heap.size + 1 := by simp
  clear M5 ha6 hS5
  generalize w5.alloc (.cells #[.string ⟨#[97]⟩, .int .i64 2] 64) = w6 at *
  have cD := do_calls (M6.at_ 0 _ _ rfl rfl) 10 [(aL, 2)] (.slice (some ⟨w5.heap.size, 0, none⟩) 1 1) (ItemsAt.wide (lo := w5.heap.size) (B := w5.heap.size + 1) hI6 (Nat.zero_le _) (by omega)) fits_two
  rw [do_two] at cD
  refine cD.mono ?_
  clear cD hI6
  rintro e w7 ⟨rfl, ⟨mb7, h7, hm7⟩, hk7⟩
  have M7 : Many w7 w.heap.size [(b1, mb7), (b2, mb2)] [sA2, []] := M6.put (i := 0) rfl h7 hm7 hk7
  have hS7 := hk7.sl hS6 (fun i h1 h2 => ⟨by omega, by dsimp only; omega⟩)
  have HB7 := Lib.hid (HB6.out.trans (hk7.below (B := w.heap.size) (fun i hi => ⟨by have := HB6.out.size; omega, by dsimp only; omega⟩)))
  have hs7 := hk7.size
  have HS := Lib.hid (M7.sts (v := .slice (some ⟨w2.heap.size, 0, none⟩) 2 2) (hS7.wide (Nat.zero_le _) (by omega)))
  clear M6 hS6 h7 hm7 hk7 M7 hS7
  have cT := total_calls [sA2, []] ⟨#[97]⟩ (by decide +kernel) _ w7 w.heap.size HS.out
  rw [totV_A] at cT
  go_wp2_with fail
  refine cT.mono ?_
  clear cT
  rintro e w8 ⟨rfl, hb8⟩
  have HS8 := Lib.hid (HS.out.same hb8)
  have HB8 := Lib.hid (HB7.out.trans (hb8.mono HB7.out.size))
  clear hb8
  have o9 := Ob.new w8 27 #[.string ⟨#[97]⟩, .int .i64 3, .int .i64 0, .int .i64 0, .int .i64 0, .int .i64 5, .int .i64 0, .int .i64 0, .int .i64 0, .int .i64 0, .int .i64 0, .int .i64 2, .int .i64 2]
  go_wp2_with fail
  have ha9 := (Below.refl w8.heap.size w8).alloc (Nat.le_refl _) (.cells #[.string ⟨#[97]⟩, .int .i64 3, .int .i64 0, .int .i64 0, .int .i64 0, .int .i64 5, .int .i64 0, .int .i64 0, .int .i64 0, .int .i64 0, .int .i64 0, .int .i64 2, .int .i64 2] 27)
  have HS9 := Lib.hid (HS8.out.same ha9)
  have HB9 := Lib.hid (HB8.out.trans (ha9.mono HB8.out.size))
  clear ha9 o9
  generalize w8.alloc (.cells #[.string ⟨#[97]⟩, .int .i64 3, .int .i64 0, .int .i64 0, .int .i64 0, .int .i64 5, .int .i64 0, .int .i64 0, .int .i64 0, .int .i64 0, .int .i64 0, .int .i64 2, .int .i64 2] 27) = w9 at *
  have cK := kept_calls ⟨#[97]⟩ 3 0 0 0 5 0 0 0 0 0 2 2 w9
  rw [show keptT 3 0 0 0 5 0 0 0 0 0 2 2 = true by decide +kernel] at cK
  refine cK.mono ?_
  clear cK
  rintro e w10 ⟨rfl, hb10⟩
  have HS10 := Lib.hid (HS9.out.same hb10)
  have HB10 := Lib.hid (HB9.out.trans (hb10.mono HB9.out.size))
  clear hb10
  go_wp2_with fail
  have cA := all_calls [sA2, []] _ w10 w.heap.size HS10.out (by decide)
  rw [all_A] at cA
  refine cA.mono ?_
  clear cA
  rintro e w11 ⟨rfl, hb11⟩
  have HS11 := Lib.hid (HS10.out.same hb11)
  have HB11 := Lib.hid (HB10.out.trans (hb11.mono HB10.out.size))
  clear hb11
  go_wp2_with fail
  have cT := totals_calls [sA2, []] _ w11 w.heap.size HS11.out (by decide)
  rw [keys_A] at cT
  refine cT.mono ?_
  clear cT
  rintro e w12 ⟨⟨u, rfl, hu⟩, hb12⟩
  obtain ⟨A, c, rfl, -⟩ := (Sl.of_own hu : Sl _ _ _ 13 u 1 _).at_
  have HB12 := Lib.hid (HB11.out.trans (hb12.mono HB11.out.size))
  clear hb12 hu
  go_wp2_with fail
  refine (ggoods_calls _ rfl _).mono ?_
  rintro e w13 ⟨rfl, rfl⟩
  have ha13 := (Below.refl w12.heap.size w12).alloc (Nat.le_refl _) (.cells #[.slice (some ⟨w2.heap.size, 0, none⟩) 2 2] 33)
  have HB13 := Lib.hid (HB12.out.trans (ha13.mono HB12.out.size))
  clear ha13
  go_wp2_with fail
  generalize w12.alloc (.cells #[.slice (some ⟨w2.heap.size, 0, none⟩) 2 2] 33) = w13 at *
  have cL := glevel_calls 1 0 0 0 2 0 0 0 w13
  rw [show wrap64 (1 + 2) = 3 by decide +kernel, show wrap64 (0 + 0) = 0 by decide +kernel] at cL
  refine cL.mono ?_
  clear cL
  rintro e w14 ⟨rfl, hb14⟩
  have HB14 := Lib.hid (HB13.out.trans (hb14.mono HB13.out.size))
  clear hb14
  go_wp2_with fail
  have cK := kept_calls ⟨#[]⟩ 0 0 0 0 0 0 0 0 0 0 0 (-1) w14
  rw [show keptT 0 0 0 0 0 0 0 0 0 0 0 (-1) = false by decide +kernel] at cK
  refine cK.mono ?_
  clear cK
  rintro e w15 ⟨rfl, hb15⟩
  have HB15 := HB14.out.trans (hb15.mono HB14.out.size)
  go_wp2_with fail
  go_ret
  exact ⟨rfl, HB15⟩
end Sk
end Go.Proofs.Ytlhpdalfnjhokaa

namespace Go.Proofs.Ytlhpdalfnjhokaa
open Go.RowKit Go.Maps
namespace Sk
open It Al Kp
theorem own_apart {w : World} {lo size n b : Nat} {e t : TypeId} {v : Value} {xs : List Value} {cs : Array Value} (h : w.ownsRow lo e size v n xs) (ho : Ob w b t cs) (hne : t ≠ e) : some b ≠ v.ownBlock := by
  rcases h.2 with ⟨rfl, -⟩ | ⟨g, cap, cur, rfl, -, hg, -⟩
  · simp [Value.ownBlock]
  · intro e2
    have e3 : b = g := Option.some.inj e2
    subst e3
    have h2 : w.heap[b]? = _ := ho
    rw [h2] at hg
    cases hg
    exact hne rfl
theorem own_apart_map {w : World} {lo size n b : Nat} {e t : TypeId} {v : Value} {xs : List Value} {m : List (Key × Value)} {P : Program} (h : w.ownsRow lo e size v n xs) (ho : GMap strK w P t b m) : some b ≠ v.ownBlock := by
  rcases h.2 with ⟨rfl, -⟩ | ⟨g, cap, cur, rfl, -, hg, -⟩
  · simp [Value.ownBlock]
  · intro e2
    have e3 : b = g := Option.some.inj e2
    subst e3
    obtain ⟨es, clock, h1, -⟩ := ho
    have h1 : w.heap[b]? = _ := h1
    rw [h1] at hg
    cases hg
theorem Many.grown {w w' : World} {base lo size n : Nat} {cs : List (Nat × Nat)} {ss : List Stk} {v : Value} {xs : List Value} {e : TypeId} (h : Many w base cs ss) (hown : w.ownsRow lo e size v n xs) (hne : 82 ≠ e) (hg : w.grownBy w' v.ownBlock) : Many w' base cs ss :=
  ⟨h.len, fun i c s h1 h2 => by
    have hs := h.at_ i c s h1 h2
    exact hs.kept (Fr := fun i => i < w.heap.size ∧ some i ≠ v.ownBlock) (Kept.of_grown hg fun i hi => hi) ⟨hs.ob.lt, own_apart hown hs.ob hne⟩ ⟨hs.map.lt, own_apart_map hown hs.map⟩, h.apart⟩
/-- no two stocks share a map -/
def Lone (cs : List (Nat × Nat)) : Prop := ∀ (i j : Nat) (c d : Nat × Nat), cs[i]? = some c → cs[j]? = some d → i ≠ j → c.2 ≠ d.2
theorem Lone.nil : Lone [] := fun i j c d h => by simp at h
theorem Lone.snoc {w : World} {base b mb : Nat} {cs : List (Nat × Nat)} {ss : List Stk} (h : Lone cs) (hm : Many w base cs ss) (hb : w.heap.size ≤ mb) : Lone (cs ++ [(b, mb)]) := by
  intro i j c d h1 h2 hij
  rcases Nat.lt_or_ge i cs.length with hi | hi
  · rw [List.getElem?_append_left hi] at h1
    have l1 := (hm.lt h1).2
    rcases Nat.lt_or_ge j cs.length with hj | hj
    · rw [List.getElem?_append_left hj] at h2
      exact h i j c d h1 h2 hij
    · rw [List.getElem?_append_right hj] at h2
      have := (List.getElem?_eq_some_iff.1 h2).1
      simp only [List.length_cons, List.length_nil] at this
      rw [show j - cs.length = 0 by omega] at h2
      cases h2
      dsimp only
      omega
  · rw [List.getElem?_append_right hi] at h1
    have hi2 := (List.getElem?_eq_some_iff.1 h1).1
    simp only [List.length_cons, List.length_nil] at hi2
    rw [show i - cs.length = 0 by omega] at h1
    cases h1
    rcases Nat.lt_or_ge j cs.length with hj | hj
    · rw [List.getElem?_append_left hj] at h2
      have l1 := (hm.lt h2).2
      dsimp only
      omega
    · rw [List.getElem?_append_right hj] at h2
      have := (List.getElem?_eq_some_iff.1 h2).1
      simp only [List.length_cons, List.length_nil] at this
      omega
theorem Lone.put {w : World} {base b mb mb' i : Nat} {cs : List (Nat × Nat)} {ss : List Stk} (h : Lone cs) (hm : Many w base cs ss) (hi : cs[i]? = some (b, mb)) (hb : mb' = mb ∨ w.heap.size ≤ mb') : Lone (cs.set i (b, mb')) := by
  intro j k c d h1 h2 hjk
  rw [List.getElem?_set] at h1 h2
  have hl := (List.getElem?_eq_some_iff.1 hi).1
  by_cases e1 : i = j
  · subst e1
    rw [if_neg hjk] at h2
    simp only [if_pos, hl, Option.some.injEq] at h1
    subst h1
    have h3 := h i k _ _ hi h2 hjk
    have h4 := (hm.lt h2).2
    dsimp only at h3 ⊢
    rcases hb with e | e
    · rw [e]; exact h3
    · omega
  · rw [if_neg e1] at h1
    by_cases e2 : i = k
    · subst e2
      simp only [if_pos, hl, Option.some.injEq] at h2
      subst h2
      have h3 := h j i _ _ h1 hi hjk
      have h4 := (hm.lt h1).2
      dsimp only at h3 ⊢
      rcases hb with e | e
      · rw [e]; exact h3
      · omega
    · rw [if_neg e2] at h2
      exact h j k _ _ h1 h2 hjk
theorem Many.count {w w' : World} {base b mb i : Nat} {cs : List (Nat × Nat)} {ss : List Stk} {s' : Stk} (h : Many w base cs ss) (hl : Lone cs) (hi : cs[i]? = some (b, mb)) (h2 : StkAt w' base b mb s') (hk : CtKept mb w w') : Many w' base cs (ss.set i s') := by
  refine ⟨by simp [h.len], fun j c t h1 h3 => ?_, h.apart⟩
  rw [List.getElem?_set] at h3
  by_cases hij : i = j
  · subst hij
    have hl2 : i < ss.length := by rw [← h.len]; exact (List.getElem?_eq_some_iff.1 hi).1
    simp only [if_pos, hl2, Option.some.injEq] at h3
    rw [hi, Option.some.injEq] at h1
    subst h1 h3
    exact h2
  · rw [if_neg hij] at h3
    have hlt := h.lt h1
    exact (h.at_ j c t h1 h3).kept hk ⟨hlt.1, (h.apart j i _ _ h1 hi (fun e => hij e.symm)).2⟩ ⟨hlt.2, hl j i _ _ h1 hi (fun e => hij e.symm)⟩
def ptrs (cs : List (Nat × Nat)) : List Value := cs.map fun c => .pointer (some ⟨c.1, 0, none⟩)
/-- stocks, and the block of a slice of pointers to them -/
structure Reg (w : World) (base g cap n : Nat) (cs : List (Nat × Nat)) (ss : List Stk) : Prop where
  many : Many w base cs ss
  lone : Lone cs
  len : cs.length = n
  cap : n ≤ cap ∧ cap ≤ maxLen
  lo : base ≤ g
  arr : ∃ cur, Ob w g 53 cur ∧ cur.toList.take n = ptrs cs
section
variable {w w' : World} {base g cap n : Nat} {cs : List (Nat × Nat)} {ss : List Stk}
theorem Reg.lt (h : Reg w base g cap n cs ss) : g < w.heap.size := by
  obtain ⟨cur, h1, -⟩ := h.arr
  exact h1.lt
theorem Reg.same (h : Reg w base g cap n cs ss) (hb : Below w.heap.size w w') : Reg w' base g cap n cs ss := by
  obtain ⟨cur, h1, h2⟩ := h.arr
  exact ⟨h.many.same hb, h.lone, h.len, h.cap, h.lo, cur, h1.same hb, h2⟩
theorem Reg.cell (h : Reg w base g cap n cs ss) {i : Nat} {c : Nat × Nat} (hi : cs[i]? = some c) : w.cell? ⟨g, i, none⟩ = some (.pointer (some ⟨c.1, 0, none⟩)) := by
  obtain ⟨cur, h1, h2⟩ := h.arr
  have hl := (List.getElem?_eq_some_iff.1 hi).1
  refine h1.cell ?_
  have h3 : (ptrs cs)[i]? = some (.pointer (some ⟨c.1, 0, none⟩)) := by unfold ptrs; rw [List.getElem?_map, hi]; rfl
  rw [← h2, List.getElem?_take, if_pos (by have := h.len; omega)] at h3
  simpa using h3
theorem Reg.sts (h : Reg w base g cap n cs ss) : StsAt w base (.slice (some ⟨g, 0, none⟩) n cap) ss := by
  obtain ⟨cur, h1, h2⟩ := h.arr
  have hn : ss.length = n := by rw [← h.many.len]; exact h.len
  refine h.many.sts ⟨by simp [h.many.len], _, cap, by rw [hn], by rw [hn]; exact h.cap.1, h.cap.2, fun _ => ⟨g, 0, rfl, Nat.zero_le _, h1.lt, fun j hj => ?_⟩⟩
  rw [Nat.mul_one, hn] at hj
  have hj2 : j < cs.length := by rw [h.len]; exact hj
  have := h.cell (List.getElem?_eq_getElem hj2)
  rw [Nat.zero_add, this]
  simp [hj2]
theorem Reg.apart (h : Reg w base g cap n cs ss) {i : Nat} {c : Nat × Nat} (hi : cs[i]? = some c) : g ≠ c.1 ∧ g ≠ c.2 := by
  obtain ⟨cur, h1, -⟩ := h.arr
  obtain ⟨s, -, h2⟩ := h.many.get i hi
  constructor
  · intro e
    have k1 : w.heap[g]? = _ := h1
    have k2 : w.heap[c.1]? = _ := h2.ob
    rw [e, k2] at k1
    cases k1
  · intro e
    have k1 : w.heap[g]? = _ := h1
    obtain ⟨es, clock, k2, -⟩ := h2.map
    have k2 : w.heap[c.2]? = _ := k2
    rw [e, k2] at k1
    cases k1
theorem Reg.do_ {b mb mb' i : Nat} {s' : Stk} (h : Reg w base g cap n cs ss) (hi : cs[i]? = some (b, mb)) (h2 : StkAt w' base b mb' s') (hm : mb' = mb ∨ w.heap.size ≤ mb') (hk : DoKept b w w') : Reg w' base g cap n (cs.set i (b, mb')) (ss.set i s') := by
  obtain ⟨cur, h1, h3⟩ := h.arr
  refine ⟨h.many.put hi h2 hm hk, h.lone.put h.many hi hm, by simp [h.len], h.cap, h.lo, cur, hk.ob h1 ⟨h1.lt, (h.apart hi).1⟩, ?_⟩
  rw [h3]
  unfold ptrs
  rw [List.map_set]
  refine (List.ext_getElem? fun j => ?_)
  rw [List.getElem?_set]
  by_cases e : i = j
  · subst e
    have hl := (List.getElem?_eq_some_iff.1 hi).1
    rw [List.getElem?_map, hi]
    simp [hl]
  · rw [if_neg e]
theorem Reg.count {b mb i : Nat} {s' : Stk} (h : Reg w base g cap n cs ss) (hi : cs[i]? = some (b, mb)) (h2 : StkAt w' base b mb s') (hk : CtKept mb w w') : Reg w' base g cap n cs (ss.set i s') := by
  obtain ⟨cur, h1, h3⟩ := h.arr
  exact ⟨h.many.count h.lone hi h2 hk, h.lone, h.len, h.cap, h.lo, cur, hk.ob h1 ⟨h1.lt, (h.apart hi).2⟩, h3⟩
theorem Reg.get (h : Reg w base g cap n cs ss) {i : Nat} (hi : i < n) : ∃ (b mb : Nat) (hs : i < ss.length), cs[i]? = some (b, mb) ∧ StkAt w base b mb ss[i] := by
  have hc : i < cs.length := by rw [h.len]; exact hi
  have hs : i < ss.length := by rw [← h.many.len]; exact hc
  exact ⟨cs[i].1, cs[i].2, hs, List.getElem?_eq_getElem hc, h.many.at_ i _ _ (List.getElem?_eq_getElem hc) (List.getElem?_eq_getElem hs)⟩
theorem Reg.of_own {v : Value} (hm : Many w base cs ss) (hl : Lone cs) (hlen : cs.length = n) (hn : 0 < n) (hown : w.ownsRow base 53 1 v n (ptrs cs)) : ∃ g cap, v = .slice (some ⟨g, 0, none⟩) n cap ∧ Reg w base g cap n cs ss := by
  rcases hown.2 with ⟨-, rfl⟩ | ⟨g, cap, cur, rfl, hbg, hg, hnc, hcm, hcs, htake⟩
  · omega
  · exact ⟨g, cap, rfl, hm, hl, hlen, ⟨hnc, hcm⟩, hbg, cur, hg, by rw [Nat.mul_one] at htake; exact htake⟩
end
end Sk
end Go.Proofs.Ytlhpdalfnjhokaa

namespace Go.Proofs.Ytlhpdalfnjhokaa
open Go.RowKit Go.Maps
namespace Sk
open It Al Kp
attribute [local go_sem] Oper.semAt_some
theorem keys_nil (n : Nat) : allKeys (List.replicate n []) = [] := by
  have : ∀ (n : Nat) (m : List (Key × Unit)), (List.replicate n ([] : Stk)).foldl (fun m s => putKeys m (keysS s)) m = m := by
    intro n
    induction n with
    | zero => exact fun m => rfl
    | succ k ih => exact fun m => ih m
  unfold allKeys allMap
  rw [this]
  rfl
theorem tot_nil (g : Key) (n : Nat) : totR (List.replicate n []) g = row0 := by
  unfold totR
  induction n with
  | zero => rfl
  | succ k ih =>
    rw [List.replicate_succ, List.foldl_cons]
    rw [show addRow row0 ((aGet ([] : Stk) g).getD row0) = row0 by
      have : (aGet ([] : Stk) g).getD row0 = row0 := rfl
      rw [this]
      decide +kernel]
    exact ih
theorem totV_nil (g : ByteArray) (n : Nat) : totV g (List.replicate n []) = .agg #[.string g, .int .i64 0, .int .i64 0, .int .i64 0, .int .i64 0, .int .i64 0, .int .i64 0, .int .i64 0, .int .i64 0, .int .i64 0, .int .i64 0, .int .i64 0, .int .i64 0] := by
  unfold totV totC
  rw [tot_nil, show wayT row0 = 0 by decide +kernel]
  rfl
theorem all_nil (n : Nat) : allS (List.replicate n []) = true := by
  unfold allS
  rw [keys_nil]
  rfl
theorem sts_nil (n : Nat) (base : Nat) (w : World) (t : TypeId) (hn : n ≤ maxLen) : StsAt (w.alloc (.cells (madeCells #[.pointer none] n) t)) base (.slice (some ⟨w.heap.size, 0, none⟩) n n) (List.replicate n []) := by
  have h := Sl.new w (madeCells #[.pointer none] n) t (size := 1) (n := n) (by rw [size_madeCells]; omega) hn
  rw [toList_madeCells_one] at h
  refine ⟨List.replicate n (.pointer none), by simp, ?_, fun i hi => ?_⟩
  · rw [List.length_replicate]
    exact h.wide (Nat.zero_le _) (by simp)
  · rw [List.length_replicate] at hi
    exact ⟨.pointer none, by simp [hi], .inl ⟨rfl, by simp⟩⟩
theorem stock_info : (Try.prog.info? 53).map (fun i => (i.zero, i.size, i.bytes)) = some (some (.pointer none), 1, 8) := by kernel_rfl
set_option maxRecDepth 100000 in
set_option maxHeartbeats 8000000 in
theorem nobody_go (n : Nat) (hn : n ≤ 100) (good : ByteArray) (hg : good.size ≤ maxLen) (w : World) :
    Calls Try.prog 4 #[.int .i64 n, .string good] w fun e w' => e = .returned (.bool true) ∧ Below w.heap.size w w' := by
  have hen := eql_nilG
  obtain ⟨i0, hi0, hz0⟩ := Option.map_eq_some_iff.1 stock_info
  simp only [Prod.mk.injEq] at hz0
  obtain ⟨hz0, hz1, hz2⟩ := hz0
  have hmk : ∀ W : World, (Instr.makeSlice 33 (.int .i64 (n : Int)) (.int .i64 (n : Int))).run Try.prog W = .ok (.slice (some ⟨W.heap.size, 0, none⟩) n n) (W.alloc (.cells (madeCells #[.pointer none] n) 53)) := fun W => by
    have := run_make (P := Try.prog) W 33 53 i0 _ Try.underlying33 hi0 hz0 .i64 .i64 n n (by omega) (Int.le_refl _) (by rw [hz2]; omega) (by omega)
    rw [hz1] at this
    simpa [Value.cells] using this
  clear hz0 hz1 hz2 hi0
  have hd0 : decide ((n : Int) < 0) = false := by simp
  have hd1 : decide ((n : Int) > 100) = false := by simp; omega
  refine (callsIn_wide (n := 6)).1 ?_
  refine callsIn_of_wp_marks Try.func4 rfl trivial ?_ rfl
  simp only [Try.ntmps4, List.size_toArray, List.length_cons, List.length_nil, Nat.reduceAdd, Nat.reduceSub, Array.replicate_succ, Array.replicate_zero, List.push_toArray, List.append_toArray, List.nil_append, List.cons_append]
  gi_wp2
  refine ⟨trivial, (callsIn_wide.2 (ggoods_calls _ rfl _)).mono ?_⟩
  rintro e w3' ⟨rfl, rfl⟩
  gi_wp2
  have hS2 := sts_nil n w.heap.size (w.alloc (.cells #[.bool false] 4)) 53 (by unfold maxLen; omega)
  rw [World.size_alloc] at hS2
  have ha1 := (Below.refl w.heap.size w).alloc (Nat.le_refl _) (.cells #[.bool false] 4)
  have ha2 := ha1.alloc ha1.size (.cells (madeCells #[.pointer none] n) 53)
  have o1 := (Ob.new w 4 #[.bool false]).alloc (.cells (madeCells #[.pointer none] n) 53)
  have hs2 : ((w.alloc (.cells #[.bool false] 4)).alloc (.cells (madeCells #[.pointer none] n) 53)).heap.size = w.heap.size + 2 := by simp
  clear ha1
  generalize (w.alloc (.cells #[.bool false] 4)).alloc (.cells (madeCells #[.pointer none] n) 53) = w2 at *
  have ha3 := (Below.refl w2.heap.size w2).alloc (Nat.le_refl _) (.cells #[.slice (some ⟨w.heap.size + 1, 0, none⟩) n n] 33)
  have o3 := Ob.new w2 33 #[.slice (some ⟨w.heap.size + 1, 0, none⟩) n n]
  rw [show w2.heap.size = w.heap.size + 1 + 1 from hs2] at o3
  have hS3 := hS2.same ha3
  have o13 := o1.same ha3
  have hB3 := ha2.trans (ha3.mono (by omega))
  have hs3 : (w2.alloc (.cells #[.slice (some ⟨w.heap.size + 1, 0, none⟩) n n] 33)).heap.size = w2.heap.size + 1 := by simp
  clear ha2 ha3 o1 hS2 hmk
  generalize w2.alloc (.cells #[.slice (some ⟨w.heap.size + 1, 0, none⟩) n n] 33) = w3 at *
  refine ⟨trivial, (callsIn_wide.2 (lives_calls w3)).mono ?_⟩
  rintro e W ⟨rfl, hb⟩
  gi_wp2
  have hSW := hS3.same hb
  have o1W := o13.same hb
  have o3W := o3.same hb
  have hBW := hB3.trans (hb.mono hB3.size)
  have hsW := hb.size
  clear hS3 o13 o3 hB3 hb
  refine Ro.range_reads (n := 6) rfl (by omega) (gf := 25) rfl trivial (enters_of Try.func25 (by kernel_rfl) rfl)
    (greads 5 (by omega) (w.heap.size + 1 + 1) w.heap.size (fun i => i = w.heap.size) hSW (by simp; omega) o3W (fun i hi => by omega) (by omega) (fun g hg => by rw [own_of o1W] at hg; cases hg)) (Below.refl _ _) (fun h k => h.trans k) (fun W l r r' _ h => KpO.loop h) rfl
    (fun _ V => Below W.heap.size W V) (fun _ _ _ => False)
    (fun s A B row hs hg hr => ownFrom_below (B := W.heap.size) (Nat.le_refl _) (Nat.le_refl _) s A B row hs hg hr)
    (fun c s A B row hs hg hr => hs.elim)
    (Below.refl _ _) ?round ?done ?stop
  case stop => exact fun D c pre X _ _ h _ => h.elim
  case round =>
    intro l pre dd v V _ _ hpre _
    rw [keys_nil] at hpre
    obtain ⟨r, hr⟩ := hpre
    simp at hr
  case done =>
    rintro D xs V hD - hB hK
    have hSV := hSW.same hB
    have o1V := o1W.same hB
    have hBV := hBW.trans (hB.mono (by have := hBW.size; omega))
    have hsV := hB.size
    clear hSW o1W o3W hBW hB
    have cT := total_calls (List.replicate n []) good hg _ V w.heap.size hSV
    rw [totV_nil] at cT
    gi_wp2
    refine ⟨trivial, (callsIn_wide.2 cT).mono ?_⟩
    clear cT
    rintro e V1 ⟨rfl, hb1⟩
    have hS1 := hSV.same hb1
    have o11 := o1V.same hb1
    have hK1 := (hb1.block D (Array.getElem?_eq_some_iff.1 hK).1).trans hK
    have hB1 := hBV.trans (hb1.mono (by omega))
    clear hSV o1V hBV hb1 hK
    gi_wp2
    have cT := totals_calls (List.replicate n []) _ V1 w.heap.size hS1 (by rw [List.length_replicate]; omega)
    rw [keys_nil] at cT
    refine ⟨trivial, (callsIn_wide.2 cT).mono ?_⟩
    clear cT
    rintro e V2 ⟨⟨u, rfl, hu⟩, hb2⟩
    obtain ⟨A, c, rfl, -⟩ := (Sl.of_own hu : Sl _ _ _ 13 u 0 _).at_
    have hS2 := hS1.same hb2
    have o12 := o11.same hb2
    have hK2 := (hb2.block D (Array.getElem?_eq_some_iff.1 hK1).1).trans hK1
    have hB2 := hB1.trans (hb2.mono hB1.size)
    clear hS1 o11 hB1 hb2 hK1 hu
    gi_wp2
    have cA := all_calls (List.replicate n []) _ V2 w.heap.size hS2 (by rw [List.length_replicate]; omega)
    rw [all_nil] at cA
    refine ⟨trivial, (callsIn_wide.2 cA).mono ?_⟩
    clear cA
    rintro e V3 ⟨rfl, hb3⟩
    have o13 := o12.same hb3
    have hK3 := (hb3.block D (Array.getElem?_eq_some_iff.1 hK2).1).trans hK2
    have hB3 := hB2.trans (hb3.mono hB2.size)
    clear hS2 o12 hB2 hb3 hK2
    have z3 := o13.cell (j := 0) (v := .bool false) rfl
    have f3 := o13.frozen 0
    gi_wp2
    have hBB := hB3.grown (grownBy_set V3 w.heap.size 0 (.bool true)) hB3.size (fun k e => by cases e; omega)
    have hb22 := o13.set 0 (.bool true)
    have hKK : (V3.setCell ⟨w.heap.size, 0, none⟩ (.bool true)).heap[D]? = some (.deferred (some [])) := ((grownBy_set V3 w.heap.size 0 (.bool true)).block D (Array.getElem?_eq_some_iff.1 hK3).1 (fun e => by cases e; omega)).trans hK3
    refine ⟨by simp, .inl ⟨_, _, rfl, run_takeDeferred hKK, ?_⟩⟩
    have c4 := (boxed_end hb22 hKK).cell
    refine ⟨.bool true, ?_, rfl, below_end hBB (by omega) hKK⟩
    simp [results, Try.f4, go_sem, c4]
set_option maxRecDepth 100000 in
set_option maxHeartbeats 8000000 in
theorem nobody_out (n : Int) (hn : n < 0 ∨ 100 < n) (good : ByteArray) (w : World) :
    Calls Try.prog 4 #[.int .i64 n, .string good] w fun e w' => e = .returned (.bool true) ∧ Below w.heap.size w w' := by
  have cL := Lib.hid lives_calls
  refine (callsIn_wide (n := 6)).1 ?_
  refine callsIn_of_wp_marks Try.func4 rfl trivial ?_ rfl
  simp only [Try.ntmps4, List.size_toArray, List.length_cons, List.length_nil, Nat.reduceAdd, Nat.reduceSub, Array.replicate_succ, Array.replicate_zero, List.push_toArray, List.append_toArray, List.nil_append, List.cons_append]
  by_cases h0 : n < 0
  · have hd0 : decide (n < 0) = true := by simpa using h0
    gi_wp2
    refine ⟨trivial, (callsIn_wide.2 (cL.out _)).mono ?_⟩
    rintro e W ⟨rfl, hb⟩
    have o1 := (Ob.new w 4 #[.bool false]).same hb
    have ha1 := (Below.refl w.heap.size w).alloc (Nat.le_refl _) (.cells #[.bool false] 4)
    have hB := ha1.trans (hb.mono ha1.size)
    have z3 := o1.cell (j := 0) (v := .bool false) rfl
    have f3 := o1.frozen 0
    have hBB := hB.grown (grownBy_set W w.heap.size 0 (.bool true)) hB.size (fun k e => by cases e; omega)
    have c4 := (o1.set 0 (.bool true)).cell (j := 0) (v := .bool true) rfl
    gi_wp2
    refine ⟨.bool true, ?_, rfl, hBB⟩
    simp [results, Try.f4, go_sem, c4]
  · have hd0 : decide (n < 0) = false := by simpa using h0
    have hd1 : decide (n > 100) = true := by simp; omega
    gi_wp2
    refine ⟨trivial, (callsIn_wide.2 (cL.out _)).mono ?_⟩
    rintro e W ⟨rfl, hb⟩
    have o1 := (Ob.new w 4 #[.bool false]).same hb
    have ha1 := (Below.refl w.heap.size w).alloc (Nat.le_refl _) (.cells #[.bool false] 4)
    have hB := ha1.trans (hb.mono ha1.size)
    have z3 := o1.cell (j := 0) (v := .bool false) rfl
    have f3 := o1.frozen 0
    have hBB := hB.grown (grownBy_set W w.heap.size 0 (.bool true)) hB.size (fun k e => by cases e; omega)
    have c4 := (o1.set 0 (.bool true)).cell (j := 0) (v := .bool true) rfl
    gi_wp2
    refine ⟨.bool true, ?_, rfl, hBB⟩
    simp [results, Try.f4, go_sem, c4]
theorem nobody_law (n : Int) (good : ByteArray) (hg : good.size ≤ maxLen) (w : World) :
    Calls Try.prog 4 #[.int .i64 n, .string good] w fun e w' => e = .returned (.bool true) ∧ Below w.heap.size w w' := by
  by_cases h : n < 0 ∨ 100 < n
  · exact nobody_out n h good w
  · obtain ⟨m, rfl⟩ : ∃ m : Nat, n = m := ⟨n.toNat, by omega⟩
    exact nobody_go m (by omega) good hg w
end Sk
end Go.Proofs.Ytlhpdalfnjhokaa

set_option linter.unusedSimpArgs false
namespace Go.Proofs.Ytlhpdalfnjhokaa
open Go.RowKit Go.Maps
namespace Sk
open It Al Kp
attribute [local go_sem] Oper.semAt_some
def keysU (m : List (Key × Unit)) : List Key := m.map (·.1)
theorem insK_asc : ∀ {l : List Key} (k : Key), l.Pairwise (· < ·) → (insK l k).Pairwise (· < ·)
  | [], k, _ => by simp [insK]
  | q :: t, k, h => by
    obtain ⟨h1, h2⟩ := List.pairwise_cons.1 h
    have hmem : ∀ {l : List Key} {x : Key}, x ∈ insK l k → x = k ∨ x ∈ l := by
      intro l
      induction l with
      | nil => intro x hx; simp only [insK, List.mem_singleton] at hx; exact .inl hx
      | cons p r ih =>
        intro x hx
        unfold insK at hx
        split at hx
        · rcases List.mem_cons.1 hx with rfl | h3
          · exact .inr (by simp)
          · rcases ih h3 with h4 | h4
            · exact .inl h4
            · exact .inr (List.mem_cons_of_mem _ h4)
        · split at hx
          · exact .inr hx
          · rcases List.mem_cons.1 hx with rfl | h3
            · exact .inl rfl
            · exact .inr h3
    unfold insK
    split
    · rename_i hlt
      refine List.pairwise_cons.2 ⟨fun x hx => ?_, insK_asc k h2⟩
      rcases hmem hx with rfl | h3
      · exact hlt
      · exact h1 x h3
    · split
      · exact h
      · rename_i hn1 hn2
        have hkq : k < q := by
          rcases bs_tri q k with h3 | h3 | h3
          · exact absurd h3 hn1
          · exact absurd h3 hn2
          · exact h3
        refine List.pairwise_cons.2 ⟨fun x hx => ?_, h⟩
        rcases List.mem_cons.1 hx with rfl | h3
        · exact hkq
        · exact List.lt_trans hkq (h1 x h3)
theorem putU : ∀ (m : List (Key × Unit)) (k : Key), (keysU m).Pairwise (· < ·) → keysU (aPut strK m k ()) = insK (keysU m) k
  | [], k, _ => rfl
  | q :: t, k, h => by
    obtain ⟨h1, h2⟩ := List.pairwise_cons.1 (show (q.1 :: keysU t).Pairwise (· < ·) from h)
    have hdn : ∀ (m : List (Key × Unit)), (∀ p ∈ m, p.1 ≠ k) → aDel m k = m := fun m hm => by
      unfold aDel
      rw [List.filter_eq_self]
      intro p hp
      simpa using hm p hp
    have hm1 : ∀ p ∈ t, q.1 < p.1 := fun p hp => h1 p.1 (List.mem_map.2 ⟨p, hp, rfl⟩)
    show _ = (if q.1 < k then q.1 :: insK (keysU t) k else if q.1 = k then q.1 :: keysU t else k :: q.1 :: keysU t)
    rcases bs_tri q.1 k with hlt | heq | hgt
    · rw [if_pos hlt, ← putU t k h2]
      have hne : q.1 ≠ k := fun e => by rw [e] at hlt; exact bs_irr _ hlt
      unfold aPut
      have : aDel (q :: t) k = q :: aDel t k := by unfold aDel; rw [List.filter_cons, if_pos (by simpa using hne)]
      rw [this]
      show keysU (if strK.lt k q.1 = true then _ else _) = _
      rw [lt_bb, decide_eq_false (bs_asy _ _ hlt)]
      rfl
    · rw [if_neg (by rw [heq]; exact bs_irr _), if_pos heq]
      have : aDel (q :: t) k = t := by
        unfold aDel
        rw [List.filter_cons, if_neg (by simp [heq])]
        exact hdn t fun p hp e => by have := hm1 p hp; rw [heq, e] at this; exact bs_irr _ this
      unfold aPut
      rw [this]
      cases t with
      | nil => rw [heq]; rfl
      | cons p u =>
        show keysU (if strK.lt k p.1 = true then _ else _) = _
        rw [lt_bb, if_pos (decide_eq_true (by have := hm1 p (by simp); rw [heq] at this; exact this)), heq]
        rfl
    · rw [if_neg (bs_asy _ _ hgt), if_neg (fun e => by rw [e] at hgt; exact bs_irr _ hgt)]
      unfold aPut
      rw [hdn (q :: t) (fun p hp e => by
        rcases List.mem_cons.1 hp with rfl | h3
        · rw [e] at hgt; exact bs_irr _ hgt
        · have := hm1 p h3; rw [e] at this; exact bs_asy _ _ hgt this)]
      show keysU (if strK.lt k q.1 = true then _ else _) = _
      rw [lt_bb, if_pos (decide_eq_true hgt)]
      rfl
theorem putsU : ∀ (ks : List Key) (m : List (Key × Unit)), (keysU m).Pairwise (· < ·) → keysU (putKeys m ks) = ks.foldl insK (keysU m) ∧ (keysU (putKeys m ks)).Pairwise (· < ·)
  | [], m, h => ⟨rfl, h⟩
  | k :: r, m, h => by
    have h1 := putU m k h
    have h2 := insK_asc k h
    rw [← h1] at h2
    obtain ⟨i1, i2⟩ := putsU r _ h2
    refine ⟨?_, i2⟩
    rw [List.foldl_cons, ← h1]
    exact i1
theorem goodsK_eq (ss : List Stk) : goodsK ss = allKeys ss := by
  have : ∀ (ss : List Stk) (m : List (Key × Unit)), (keysU m).Pairwise (· < ·) → keysU (ss.foldl (fun m s => putKeys m (keysS s)) m) = ss.foldl (fun o s => (keysS s).foldl insK o) (keysU m) := by
    intro ss
    induction ss with
    | nil => exact fun m _ => rfl
    | cons s r ih =>
      intro m h
      obtain ⟨h1, h2⟩ := putsU (keysS s) m h
      rw [List.foldl_cons, List.foldl_cons, ih _ h2, h1]
  exact (this ss [] List.Pairwise.nil).symm
theorem StkAt.asc {w : World} {base b mb : Nat} {s : Stk} (h : StkAt w base b mb s) : Asc s := by
  have := h.map.sorted keyedS
  unfold gm at this
  rw [List.pairwise_map] at this
  exact this.imp fun hh => KsU.bb_lt _ _ hh
section
variable {w w' : World} {base x b mb : Nat} {s : Stk}
theorem RsAt.kept {Fr : Nat → Prop} (h : RsAt w base x s) (hk : Kept Fr w w') (hF : ∀ g t cs, Ob w g t cs → (t = 76 ∨ t = 78) → Fr g) : RsAt w' base x s := by
  obtain ⟨v, h1, h2⟩ := h.ob
  refine ⟨⟨v, hk.ob h1 (hF _ _ _ h1 (.inl rfl)), ?_, h2.ok⟩, h.lo⟩
  refine ⟨h2.own.1, ?_⟩
  rcases h2.own.2 with hn | ⟨g, cap, cur, e, hb, hg, rest⟩
  · exact .inl hn
  · exact .inr ⟨g, cap, cur, e, hb, (hk.block g (hF g _ _ hg (.inr rfl))).trans hg, rest⟩
theorem ob_type {g : Nat} {t t' : TypeId} {cs cs' : Array Value} (h : Ob w g t cs) (h' : Ob w g t' cs') : t = t' := by
  have h2 : w.heap[g]? = _ := h
  have h3 : w.heap[g]? = _ := h'
  rw [h2] at h3
  cases h3
  rfl
theorem ob_map {g : Nat} {t : TypeId} {cs : Array Value} {m : List (Key × Value)} {P : Program} {tk : TypeId} (h : Ob w g t cs) (h' : GMap strK w P tk g m) : False := by
  have h2 : w.heap[g]? = _ := h
  obtain ⟨es, clock, h3, -⟩ := h'
  have h3 : w.heap[g]? = _ := h3
  rw [h2] at h3
  cases h3
/-- the document's stock is not hit by the program's Do, nor by its Count -/
theorem RsAt.past_do (h : RsAt w base x s) {b2 mb2 base2 : Nat} {s2 : Stk} (hs : StkAt w base2 b2 mb2 s2) (hk : DoKept b2 w w') : RsAt w' base x s :=
  h.kept hk fun g t cs ho ht => ⟨ho.lt, fun e => by subst e; have := ob_type ho hs.ob; rcases ht with h1 | h1 <;> (rw [h1] at this; revert this; decide)⟩
theorem RsAt.past_count (h : RsAt w base x s) {b2 mb2 base2 : Nat} {s2 : Stk} (hs : StkAt w base2 b2 mb2 s2) (hk : CtKept mb2 w w') : RsAt w' base x s :=
  h.kept hk fun g t cs ho _ => ⟨ho.lt, fun e => by subst e; exact ob_map ho hs.map⟩
/-- the program's stock is not hit by what the document's does -/
theorem StkAt.past (h : StkAt w base b mb s) {x2 base2 : Nat} {s2 : Stk} (hs : RsAt w base2 x2 s2) (hk : StKept x2 w w') : StkAt w' base b mb s := by
  obtain ⟨v, h1, -⟩ := hs.ob
  exact h.kept hk ⟨h.ob.lt, fun e => by subst e; have := ob_type h.ob h1; revert this; decide⟩ ⟨h.map.lt, fun e => by subst e; exact ob_map h1 h.map⟩
end
theorem RsAt.wide {w : World} {base base' x : Nat} {s : Stk} (h : RsAt w base x s) (hb : base' ≤ base) : RsAt w base' x s := by
  obtain ⟨v, h1, h2⟩ := h.ob
  exact ⟨⟨v, h1, row_mono h2.own hb, h2.ok⟩, Nat.le_trans hb h.lo⟩
theorem row_other {w w' : World} {lo lo' size size' n n' : Nat} {e e' : TypeId} {v v' : Value} {xs xs' : List Value} (h : w.ownsRow lo e size v n xs) (h' : w.ownsRow lo' e' size' v' n' xs') (hne : e ≠ e') (hg : w.grownBy w' v'.ownBlock) : w'.ownsRow lo e size v n xs := by
  refine h.kept hg ?_
  rcases h.2 with ⟨rfl, -⟩ | ⟨g, cap, cur, rfl, -, hgg, -⟩
  · exact .inl rfl
  · exact .inr (own_apart_t h' (show Ob w g e cur from hgg) hne)
/-- the document's stocks, one by one -/
def Refs (w : World) (base : Nat) (xs : List Nat) (ss : List Stk) : Prop := xs.length = ss.length ∧ ∀ (i : Nat) (x : Nat) (s : Stk), xs[i]? = some x → ss[i]? = some s → RsAt w base x s
theorem Refs.same {w w' : World} {base : Nat} {xs : List Nat} {ss : List Stk} (h : Refs w base xs ss) (hb : Below w.heap.size w w') : Refs w' base xs ss := ⟨h.1, fun i x s h1 h2 => (h.2 i x s h1 h2).same hb⟩
theorem Refs.grown {w w' : World} {base lo size n : Nat} {xs : List Nat} {ss : List Stk} {v : Value} {vs : List Value} {e : TypeId} (h : Refs w base xs ss) (hown : w.ownsRow lo e size v n vs) (hne : 76 ≠ e ∧ 78 ≠ e) (hg : w.grownBy w' v.ownBlock) : Refs w' base xs ss :=
  ⟨h.1, fun i x s h1 h2 => (h.2 i x s h1 h2).kept (Fr := fun i => i < w.heap.size ∧ some i ≠ v.ownBlock) (Kept.of_grown hg fun i hi => hi) fun g t cs ho ht => ⟨ho.lt, own_apart_t hown ho (by rcases ht with rfl | rfl; exact hne.1; exact hne.2)⟩⟩
theorem Refs.snoc {w : World} {base x : Nat} {xs : List Nat} {ss : List Stk} {s : Stk} (h : Refs w base xs ss) (hx : RsAt w base x s) : Refs w base (xs ++ [x]) (ss ++ [s]) := by
  refine ⟨by simp [h.1], fun i y t h1 h2 => ?_⟩
  rcases Nat.lt_or_ge i xs.length with hi | hi
  · rw [List.getElem?_append_left hi] at h1
    rw [List.getElem?_append_left (by rw [← h.1]; exact hi)] at h2
    exact h.2 i y t h1 h2
  · rw [List.getElem?_append_right hi] at h1
    rw [List.getElem?_append_right (by rw [← h.1]; exact hi)] at h2
    have hl := (List.getElem?_eq_some_iff.1 h1).1
    simp only [List.length_cons, List.length_nil] at hl
    have e1 : i - xs.length = 0 := by omega
    have e2 : i - ss.length = 0 := by rw [← h.1]; exact e1
    rw [e1] at h1
    rw [e2] at h2
    cases h1
    cases h2
    exact hx
def ptrsR (xs : List Nat) : List Value := xs.map fun x => .pointer (some ⟨x, 0, none⟩)
theorem Refs.rss {w : World} {base : Nat} {xs : List Nat} {ss : List Stk} {v : Value} (h : Refs w base xs ss) (hs : Sl w 0 w.heap.size 1 v ss.length (ptrsR xs)) : RssAt w base v ss := by
  refine ⟨xs, h.1, hs, fun i hi => ?_⟩
  have hx : i < xs.length := by rw [h.1]; exact hi
  exact ⟨xs[i], List.getElem?_eq_getElem hx, h.2 i _ _ (List.getElem?_eq_getElem hx) (List.getElem?_eq_getElem hi)⟩
theorem rptr_info : (Try.prog.info? 73).map (fun i => (i.zero, i.size, i.bytes)) = some (some (.pointer none), 1, 8) := by kernel_rfl
theorem ptr_nj (b : Nat) (w : World) : (binOp .eql 53 (.pointer (some ⟨b, 0, none⟩)) (.pointer none)).run Try.prog w = .ok (.bool false) w := by kernel_rfl
set_option maxRecDepth 100000 in
set_option maxHeartbeats 16000000 in
theorem stocks_calls (ls : List (List OpV)) (v : Value) (w : World) (hO : OpssAt w w.heap.size v ls) (hOk : ∀ l ∈ ls, ∀ o ∈ l, OkOp o) :
    Calls Try.prog 19 #[v] w fun e w' => (∃ (va vb : Value) (ss : List Stk), e = .returned (.tuple #[va, vb]) ∧ ss.length ≤ 6 ∧ (∀ s ∈ ss, s.length ≤ 64) ∧ StsAt w' w.heap.size va ss ∧ RssAt w' w.heap.size vb ss) ∧ Below w.heap.size w w' := by
  have hmx := hmx
  obtain ⟨A, c, rfl, hc1, hc2, hOL⟩ := hO
  unfold maxLen at hc2
  have HO := Lib.hid hOL
  have HOK := Lib.hid hOk
  clear hOL hOk
  obtain ⟨i0, hi0, hz0⟩ := Option.map_eq_some_iff.1 stock_info
  simp only [Prod.mk.injEq] at hz0
  obtain ⟨hz0, hz1, hz2⟩ := hz0
  obtain ⟨j0, hj0, hy0⟩ := Option.map_eq_some_iff.1 rptr_info
  simp only [Prod.mk.injEq] at hy0
  obtain ⟨hy0, hy1, hy2⟩ := hy0
  have HZ := Lib.hid (And.intro hi0 (And.intro hz0 (And.intro hz1 hz2)))
  have HY := Lib.hid (And.intro hj0 (And.intro hy0 (And.intro hy1 hy2)))
  clear hi0 hz0 hz1 hz2 hj0 hy0 hy1 hy2
  have cN := Lib.hid new_calls
  have hpe := ptr_nj
  go_enter Try.func19, Try.ntmps19
  go_wp2
  go_loopw [4, 5, 6, 7, 8, 9, 10] (fun va vb i _ _ _ _ W => ∃ (k : Nat) (cs : List (Nat × Nat)) (xs : List Nat) (ss : List Stk), k ≤ ls.length ∧ k ≤ 6 ∧ i = .int .i64 k ∧ ss.length = k ∧ Many W w.heap.size cs ss ∧ Refs W w.heap.size xs ss ∧ W.ownsRow w.heap.size 53 1 va k (ptrs cs) ∧ W.ownsRow w.heap.size 73 1 vb k (ptrsR xs) ∧ Below w.heap.size w W) (fun _ _ i _ _ _ _ _ => ls.length - (intOf i).toNat)
  case atStart => exact ⟨0, [], [], [], by omega, by omega, rfl, rfl, Many.nil _ _, ⟨rfl, fun i x s h => by simp at h⟩, World.ownsRow_nil _ _ _ _, World.ownsRow_nil _ _ _ _, Below.refl _ _⟩
  case round =>
    obtain ⟨i, cs, xs, ss, hi, hi6, rfl, hlen, hM, hR, hoa, hob, hB⟩ := hrel
    have HLE := Lib.hid hlen
    have HB := Lib.hid hB
    have HM := Lib.hid hM
    have HR := Lib.hid hR
    clear hlen hB hM hR
    by_cases hlt : i < ls.length
    · by_cases hlt6 : i < 6
      · have hd : decide ((i : Int) < (ls.length : Int)) = true := by simp; omega
        have hd6 : decide ((i : Int) < 6) = true := by simp; omega
        obtain ⟨pb, po, v', e, hpb, hcell, hops⟩ := HO.out i hlt
        cases e
        have hok := HOK.out _ (List.getElem_mem hlt)
        generalize ls[i] = os at *
        have HOP := Lib.hid hops
        have HOS := Lib.hid hok
        have HC := Lib.hid hcell
        obtain ⟨A1, c1, rfl, hc3, hc4⟩ := hops.form
        unfold maxLen at hc4
        clear hcell hops hok
        have hBs0 := HB.out.size
        go_wp2_with fail
        refine (cN.out wr).mono ?_
        rintro e W1 ⟨⟨b, mb, rfl, hS⟩, hb1⟩
        have HS1 := Lib.hid hS
        have HB1 := Lib.hid hb1
        clear hS hb1
        go_upto_region 10 with (fail)
        have hx2 : RsAt (W1.alloc (.cells #[.slice none 0 0] 76)) wr.heap.size W1.heap.size [] := ⟨⟨_, Ob.new _ _ _, World.ownsRow_nil _ _ _ _, fun p hp => by cases hp⟩, HB1.out.size⟩
        have hal := (Below.refl W1.heap.size W1).alloc (Nat.le_refl _) (.cells #[.slice none 0 0] 76)
        have hb2 := HB1.out.trans (hal.mono HB1.out.size)
        have hS2 := HS1.out.same hal
        clear HS1 HB1 hal
        generalize W1.alloc (.cells #[.slice none 0 0] 76) = W2 at *
        generalize W1.heap.size = x at *
        generalize hw1 : wr = w1 at *
        clear hw1
        go_wp2
        go_loopw [9, 10] (fun k9 _ V => ∃ (k : Nat) (s : Stk) (mb2 : Nat), k ≤ os.length ∧ k ≤ 30 ∧ k9 = .int .i64 k ∧ Below w1.heap.size w1 V ∧ StkAt V w1.heap.size b mb2 s ∧ RsAt V w1.heap.size x s) (fun k9 _ _ => os.length - (intOf k9).toNat)
        case atStart => exact ⟨0, [], mb, by omega, by omega, rfl, hb2, hS2, hx2⟩
        case round =>
          clear hb2 hS2 hx2
          obtain ⟨k, s, mb2, hk, hk30, rfl, hBv, hSv, hXv⟩ := hrel
          have HBV := Lib.hid hBv
          have HBW := Lib.hid (HB.out.trans (hBv.mono HB.out.size))
          have HSV := Lib.hid hSv
          have HXV := Lib.hid hXv
          clear hBv hSv hXv
          have hck := (HBW.out.cell (p := ⟨pb, po + i, none⟩) hpb).trans HC.out
          by_cases hltk : k < os.length
          · by_cases hlt30 : k < 30
            · have hdk : decide ((k : Int) < (os.length : Int)) = true := by simp; omega
              have hdk2 : decide ((k : Int) < 30) = true := by simp; omega
              obtain ⟨bo, qo, lv, ea, hbo, hIo, g0, g1, g2, g3⟩ := HOP.out.at_ hltk
              cases ea
              replace g0 := (HBW.out.cell (p := ⟨bo, qo + k * 4, none⟩) hbo).trans g0
              replace g1 := (HBW.out.cell (p := ⟨bo, qo + k * 4 + 1, none⟩) hbo).trans g1
              replace g2 := (HBW.out.cell (p := ⟨bo, qo + k * 4 + 2, none⟩) hbo).trans g2
              replace g3 := (HBW.out.cell (p := ⟨bo, qo + k * 4 + 3, none⟩) hbo).trans g3
              have hoo := HOS.out _ (List.getElem_mem hltk)
              generalize os[k] = oo at *
              obtain ⟨kd, lo, gd, nn⟩ := oo
              dsimp only at hIo g0 g1 g2 g3
              have HOO := Lib.hid hoo
              obtain ⟨Ao, co, rfl, hcl3, hcl4⟩ := hIo.form
              unfold maxLen at hcl4
              have HI0 := Lib.hid (fun W (h : Below w.heap.size w W) => hIo.mono h h.size)
              have hO7 := Ob.new wr 57 #[.int .i64 kd, .slice Ao lo.length co, .string gd, .int .i64 nn]
              have hal := (Below.refl wr.heap.size wr).alloc (Nat.le_refl _) (.cells #[.int .i64 kd, .slice Ao lo.length co, .string gd, .int .i64 nn] 57)
              have HB3 := Lib.hid (HBV.out.trans (hal.mono HBV.out.size))
              have HW3 := Lib.hid (HBW.out.trans (hal.mono HBW.out.size))
              have HS3 := Lib.hid (HSV.out.same hal)
              have HX3 := Lib.hid (HXV.out.same hal)
              clear hal hoo hIo HBV HBW HSV HXV
              by_cases hlong : 100 < lo.length
              · have hd3 : decide ((lo.length : Int) > 100) = true := by simp; omega
                go_wp2
                exact ⟨⟨k + 1, s, mb2, by omega, by omega, by go_num, HB3.out, HS3.out, HX3.out⟩, by simp [intOf]; omega⟩
              · have hd3 : decide ((lo.length : Int) > 100) = false := by simp; omega
                go_upto_region 14 with (fail)
                clear g0 g1 g2 g3 hck
                generalize wr.alloc (.cells #[.int .i64 kd, .slice Ao lo.length co, .string gd, .int .i64 nn] 57) = W0 at *
                generalize wr.heap.size = zz at *
                clear wr
                have q0 := hO7.cell (j := 0) (v := .int .i64 kd) rfl
                have q1 := hO7.cell (j := 1) (v := .slice Ao lo.length co) rfl
                have q2 := hO7.cell (j := 2) (v := .string gd) rfl
                have q3 := hO7.cell (j := 3) (v := .int .i64 nn) rfl
                have hzb : zz ≠ b := fun e => by subst e; have := ob_type hO7 HS3.out.ob; revert this; decide
                have hzm : zz ≠ mb2 := fun e => by subst e; exact ob_map hO7 HS3.out.map
                by_cases e12 : kd = 12
                · subst e12
                  have cC := count_calls7 HS3.out gd HOO.out.g nn
                  go_wp2_with fail
                  refine cC.mono ?_
                  rintro e W4 ⟨rfl, hS4, hk4⟩
                  have hO8 : Ob W4 zz 57 _ := hk4.ob hO7 ⟨hO7.lt, hzm⟩
                  have HX4 := Lib.hid (HX3.out.past_count HS3.out hk4)
                  have HB4 := Lib.hid (HB3.out.trans (hk4.below (B := w1.heap.size) (fun i hi => ⟨by have := HB3.out.size; omega, by have := HS3.out.lo; omega⟩)))
                  have HS4 := Lib.hid hS4
                  have cR := rcount_calls HX4.out HB4.out.size (by have := HS3.out.len; omega) gd HOO.out.g nn
                  rw [countS_eq HS3.out.asc (by obtain ⟨v0, -, h2⟩ := HX3.out.ob; exact h2.ok)] at cR
                  clear cC q0 q1 q2 q3 hO7 hS4 hk4 HX3 HS3 HB3
                  have q0 := hO8.cell (j := 0) (v := .int .i64 12) rfl
                  have q1 := hO8.cell (j := 1) (v := .slice Ao lo.length co) rfl
                  have q2 := hO8.cell (j := 2) (v := .string gd) rfl
                  have q3 := hO8.cell (j := 3) (v := .int .i64 nn) rfl
                  go_wp2_with fail
                  refine cR.mono ?_
                  rintro e W5 ⟨rfl, hX5, hk5⟩
                  have HS5 := Lib.hid (HS4.out.past HX4.out hk5)
                  have HB5 := Lib.hid (HB4.out.trans (hk5.below (B := w1.heap.size) (fun i hi => ⟨by have := HB4.out.size; omega, by have := HX4.out.lo; omega⟩)))
                  clear cR q0 q1 q2 q3 hO8 hk5
                  go_wp2
                  exact ⟨⟨k + 1, _, mb2, by omega, by omega, by go_num, HB5.out, HS5.out, hX5⟩, by simp [intOf]; omega⟩
                · have f12 : (kd == 12) = false := by simpa using e12
                  clear e12
                  have cD := do_calls HS3.out kd lo (.slice Ao lo.length co) (HI0.out _ HW3.out) HOO.out.l
                  go_wp2_with fail
                  refine cD.mono ?_
                  rintro e W4 ⟨rfl, ⟨mb9, hS4, hm9⟩, hk4⟩
                  have hO8 : Ob W4 zz 57 _ := hk4.ob hO7 ⟨hO7.lt, hzb⟩
                  have HX4 := Lib.hid (HX3.out.past_do HS3.out hk4)
                  have HB4 := Lib.hid (HB3.out.trans (hk4.below (B := w1.heap.size) (fun i hi => ⟨by have := HB3.out.size; omega, by have := HS3.out.lo; omega⟩)))
                  have HW4 := Lib.hid (HW3.out.trans (hk4.below (B := w.heap.size) (fun i hi => ⟨by have := HW3.out.size; omega, by have := HS3.out.lo; omega⟩)))
                  have HS4 := Lib.hid hS4
                  have cR := rdo_calls HX4.out HB4.out.size (by have := HS3.out.len; omega) kd lo (.slice Ao lo.length co) (HI0.out _ HW4.out) HOO.out.l
                  rw [doS_eq HS3.out.asc] at cR
                  clear cD q0 q1 q2 q3 hO7 hS4 hk4 HX3 HS3 HB3 HW3
                  have q0 := hO8.cell (j := 0) (v := .int .i64 kd) rfl
                  have q1 := hO8.cell (j := 1) (v := .slice Ao lo.length co) rfl
                  have q2 := hO8.cell (j := 2) (v := .string gd) rfl
                  have q3 := hO8.cell (j := 3) (v := .int .i64 nn) rfl
                  go_wp2_with fail
                  refine cR.mono ?_
                  rintro e W5 ⟨rfl, hX5, hk5⟩
                  have HS5 := Lib.hid (HS4.out.past HX4.out hk5)
                  have HB5 := Lib.hid (HB4.out.trans (hk5.below (B := w1.heap.size) (fun i hi => ⟨by have := HB4.out.size; omega, by have := HX4.out.lo; omega⟩)))
                  clear cR q0 q1 q2 q3 hO8 hk5
                  go_wp2
                  exact ⟨⟨k + 1, _, mb9, by omega, by omega, by go_num, HB5.out, HS5.out, hX5⟩, by simp [intOf]; omega⟩
            · have hdk : decide ((k : Int) < (os.length : Int)) = true := by simp; omega
              have hdk2 : decide ((k : Int) < 30) = false := by simp; omega
              have M1 := HM.out.snoc HBV.out HSV.out HB.out.size
              have R1 := (HR.out.same HBV.out).snoc (HXV.out.wide HB.out.size)
              have own1 := ownsRow_below hoa HBV.out
              have owr1 := ownsRow_below hob HBV.out
              have hwl : w.heap.size ≤ wr.heap.size := HBW.out.size
              obtain ⟨hi0, hz0, hz1, hz2⟩ := HZ.out
              obtain ⟨hj0, hy0, hy1, hy2⟩ := HY.out
              have hal := (Below.refl wr.heap.size wr).alloc (Nat.le_refl _) (.cells #[.pointer (some ⟨b, 0, none⟩)] 53)
              have M2 := M1.same hal
              have R2 := R1.same hal
              have hb2 := HBW.out.trans (hal.mono HBW.out.size)
              clear M1 R1 hal
              go_wp2_with (first
                | (at_builtin; refine wpList_append_sl _ rfl (.tmp 77) (.tmp 79) _ rfl w.heap.size 53 i0 _ 1 8 Try.underlying33 hi0 hz0 hz1 hz2 rfl (by omega) _ i _ rfl (own1.alloc _) wr.heap.size (wr.heap.size + 1) _ 1 [.pointer (some ⟨b, 0, none⟩)] rfl (Sl.new wr #[.pointer (some ⟨b, 0, none⟩)] 53 (n := 1) rfl (by unfold maxLen; omega)) (by simp [Value.oneCell']) (by unfold maxLen; omega) (by omega) (by simp; omega) ?_; intro v1 w5 hv1 hg1 hat1; have owr5 := row_other (owr1.alloc _) (own1.alloc _) (by decide) hg1; have hb5 := hb2.grown hg1 hb2.size (fun g hg => (own1.lt g hg).1); have hw5 := hb5.size)
                | (at_builtin; refine wpList_append_sl _ rfl (.tmp 81) (.tmp 83) _ rfl w.heap.size 73 j0 _ 1 8 Try.underlying45 hj0 hy0 hy1 hy2 rfl (by omega) _ i _ rfl (owr5.alloc _) w5.heap.size (w5.heap.size + 1) _ 1 [.pointer (some ⟨x, 0, none⟩)] rfl (Sl.new w5 #[.pointer (some ⟨x, 0, none⟩)] 73 (n := 1) rfl (by unfold maxLen; omega)) (by simp [Value.oneCell']) (by unfold maxLen; omega) (by omega) (by simp; omega) ?_; intro v2 w6 hv2 hg2 hat2))
              have M5 := M2.grown (own1.alloc _) (by decide) hg1
              have R5 := R2.grown (own1.alloc _) ⟨by decide, by decide⟩ hg1
              have hal5 := (Below.refl w5.heap.size w5).alloc (Nat.le_refl _) (.cells #[.pointer (some ⟨x, 0, none⟩)] 73)
              have M6 := (M5.same hal5).grown (owr5.alloc _) (by decide) hg2
              have R6 := (R5.same hal5).grown (owr5.alloc _) ⟨by decide, by decide⟩ hg2
              have hb6 := (hb5.trans (hal5.mono hb5.size)).grown hg2 (hb5.trans (hal5.mono hb5.size)).size (fun g hg => (owr5.lt g hg).1)
              have hv16 := row_other (hv1.alloc _) (owr5.alloc _) (by decide) hg2
              have e1 : ptrs (cs ++ [(b, mb2)]) = ptrs cs ++ [.pointer (some ⟨b, 0, none⟩)] := by unfold ptrs; simp
              have e2 : ptrsR (xs ++ [x]) = ptrsR xs ++ [.pointer (some ⟨x, 0, none⟩)] := by unfold ptrsR; simp
              rw [← e1] at hv16
              rw [← e2] at hv2
              have hln : (ss ++ [s]).length = i + 1 := by simp [HLE.out]
              clear e1 e2 hat1 hat2 hg1 hg2 hv1 hal5 owr5 own1 owr1 M2 R2 M5 R5 hb2 hb5
              exact ⟨⟨i + 1, _, _, _, by omega, by omega, by go_num, hln, M6, R6, hv16, hv2, hb6⟩, by simp [intOf]; omega⟩
          · have hdk : decide ((k : Int) < (os.length : Int)) = false := by simp; omega
            have M1 := HM.out.snoc HBV.out HSV.out HB.out.size
            have R1 := (HR.out.same HBV.out).snoc (HXV.out.wide HB.out.size)
            have own1 := ownsRow_below hoa HBV.out
            have owr1 := ownsRow_below hob HBV.out
            have hwl : w.heap.size ≤ wr.heap.size := HBW.out.size
            obtain ⟨hi0, hz0, hz1, hz2⟩ := HZ.out
            obtain ⟨hj0, hy0, hy1, hy2⟩ := HY.out
            have hal := (Below.refl wr.heap.size wr).alloc (Nat.le_refl _) (.cells #[.pointer (some ⟨b, 0, none⟩)] 53)
            have M2 := M1.same hal
            have R2 := R1.same hal
            have hb2 := HBW.out.trans (hal.mono HBW.out.size)
            clear M1 R1 hal
            go_wp2_with (first
              | (at_builtin; refine wpList_append_sl _ rfl (.tmp 77) (.tmp 79) _ rfl w.heap.size 53 i0 _ 1 8 Try.underlying33 hi0 hz0 hz1 hz2 rfl (by omega) _ i _ rfl (own1.alloc _) wr.heap.size (wr.heap.size + 1) _ 1 [.pointer (some ⟨b, 0, none⟩)] rfl (Sl.new wr #[.pointer (some ⟨b, 0, none⟩)] 53 (n := 1) rfl (by unfold maxLen; omega)) (by simp [Value.oneCell']) (by unfold maxLen; omega) (by omega) (by simp; omega) ?_; intro v1 w5 hv1 hg1 hat1; have owr5 := row_other (owr1.alloc _) (own1.alloc _) (by decide) hg1; have hb5 := hb2.grown hg1 hb2.size (fun g hg => (own1.lt g hg).1); have hw5 := hb5.size)
              | (at_builtin; refine wpList_append_sl _ rfl (.tmp 81) (.tmp 83) _ rfl w.heap.size 73 j0 _ 1 8 Try.underlying45 hj0 hy0 hy1 hy2 rfl (by omega) _ i _ rfl (owr5.alloc _) w5.heap.size (w5.heap.size + 1) _ 1 [.pointer (some ⟨x, 0, none⟩)] rfl (Sl.new w5 #[.pointer (some ⟨x, 0, none⟩)] 73 (n := 1) rfl (by unfold maxLen; omega)) (by simp [Value.oneCell']) (by unfold maxLen; omega) (by omega) (by simp; omega) ?_; intro v2 w6 hv2 hg2 hat2))
            have M5 := M2.grown (own1.alloc _) (by decide) hg1
            have R5 := R2.grown (own1.alloc _) ⟨by decide, by decide⟩ hg1
            have hal5 := (Below.refl w5.heap.size w5).alloc (Nat.le_refl _) (.cells #[.pointer (some ⟨x, 0, none⟩)] 73)
            have M6 := (M5.same hal5).grown (owr5.alloc _) (by decide) hg2
            have R6 := (R5.same hal5).grown (owr5.alloc _) ⟨by decide, by decide⟩ hg2
            have hb6 := (hb5.trans (hal5.mono hb5.size)).grown hg2 (hb5.trans (hal5.mono hb5.size)).size (fun g hg => (owr5.lt g hg).1)
            have hv16 := row_other (hv1.alloc _) (owr5.alloc _) (by decide) hg2
            have e1 : ptrs (cs ++ [(b, mb2)]) = ptrs cs ++ [.pointer (some ⟨b, 0, none⟩)] := by unfold ptrs; simp
            have e2 : ptrsR (xs ++ [x]) = ptrsR xs ++ [.pointer (some ⟨x, 0, none⟩)] := by unfold ptrsR; simp
            rw [← e1] at hv16
            rw [← e2] at hv2
            have hln : (ss ++ [s]).length = i + 1 := by simp [HLE.out]
            clear e1 e2 hat1 hat2 hg1 hg2 hv1 hal5 owr5 own1 owr1 M2 R2 M5 R5 hb2 hb5
            exact ⟨⟨i + 1, _, _, _, by omega, by omega, by go_num, hln, M6, R6, hv16, hv2, hb6⟩, by simp [intOf]; omega⟩
      · have hd : decide ((i : Int) < (ls.length : Int)) = true := by simp; omega
        have hd6 : decide ((i : Int) < 6) = false := by simp; omega
        obtain ⟨Aa, ca, rfl, -⟩ := (Sl.of_own hoa).at_
        obtain ⟨Ab, cb, rfl, -⟩ := (Sl.of_own hob).at_
        go_wp2
        go_ret2
        have hl := HLE.out
        subst hl
        refine ⟨⟨_, _, ss, rfl, by omega, fun s hs => ?_, HM.out.sts ((Sl.of_own hoa).wide (Nat.zero_le _) (Nat.le_refl _)), HR.out.rss ((Sl.of_own hob).wide (Nat.zero_le _) (Nat.le_refl _))⟩, HB.out⟩
        obtain ⟨q, hq, rfl⟩ := List.getElem_of_mem hs
        have hqc : q < cs.length := by rw [HM.out.len]; exact hq
        exact (HM.out.at_ q _ _ (List.getElem?_eq_getElem hqc) (List.getElem?_eq_getElem hq)).len
    · have hd : decide ((i : Int) < (ls.length : Int)) = false := by simp; omega
      obtain ⟨Aa, ca, rfl, -⟩ := (Sl.of_own hoa).at_
      obtain ⟨Ab, cb, rfl, -⟩ := (Sl.of_own hob).at_
      go_wp2
      go_ret2
      have hl := HLE.out
      subst hl
      refine ⟨⟨_, _, ss, rfl, by omega, fun s hs => ?_, HM.out.sts ((Sl.of_own hoa).wide (Nat.zero_le _) (Nat.le_refl _)), HR.out.rss ((Sl.of_own hob).wide (Nat.zero_le _) (Nat.le_refl _))⟩, HB.out⟩
      obtain ⟨q, hq, rfl⟩ := List.getElem_of_mem hs
      have hqc : q < cs.length := by rw [HM.out.len]; exact hq
      exact (HM.out.at_ q _ _ (List.getElem?_eq_getElem hqc) (List.getElem?_eq_getElem hq)).len
end Sk
end Go.Proofs.Ytlhpdalfnjhokaa

namespace Go.Proofs.Ytlhpdalfnjhokaa
open Go.RowKit
namespace Pi
open Pu
section
variable {P : Program} {ops : Array Oper} {Q : Exit → Act → World → Prop} {l n : Nat}
theorem regionInW {id : Nat} {a : Act} {w : World} (Inv : World → Prop) (hm : P.follows .mixedOrders = true) (hf : fine .any ops = true) (hok : okL ops ops.toList = true) (hd : noDefer ops = true) (hI : Inv w.drew)
    {l' : List Oper} (hl : ops.toList = l') (hs : Walk P ops Inv l' a fun A => ∀ w, Inv w → Q .normal A w) : (Code.region id ops true).wpIn (Fence.wide.inRound l) n P Q a w := by
  subst hl
  obtain ⟨A, hK, h1, h2, h3, h4⟩ := Seq.done _ _ hok hs.go
  refine Go.wpIn_mono (Q := OnlyN Q) ?_ fun e a w h => by rw [h.e]; exact h.q
  refine wpIn_region_any hm (any_in (noDefer_at hd) _ _ _ _ ?_)
  have h := wpAny_pure (md := .any) (P := P) (Q := OnlyN Q) hf h4 (fun w hw => OnlyN.out (hK w hw)) (List.range ops.size) (Array.replicate ops.size false) a w.drew (by simp) List.nodup_range (fun j => ?_) ⟨h1.symm, h2.symm, fun t ht => ?_⟩ hI
  · rwa [List.length_range] at h
  · rw [List.mem_range]
    by_cases h : j < ops.size
    · simp [h]
    · simp [h]
  · refine (h3 t fun o ho hd => ?_).symm
    obtain ⟨j, hj⟩ := List.mem_iff_getElem?.1 ho
    have hj : ops[j]? = some o := by simpa using hj
    have := ht j o hj hd
    have hjs : j < ops.size := (Array.getElem?_eq_some_iff.1 hj).1
    simp [hjs] at this
end
end Pi
end Go.Proofs.Ytlhpdalfnjhokaa
