/-
  Arguments opened: levels, flows, totals.
-/
import Derived.Test.YtlhpdalfnjhokaaSkP
import Derived.Test.YtlhpdalfnjhokaaLaw
import Derived.SizedLaws
import Derived.Deep.Slices
import Derived.Deep.Fields
import Derived.ChangeSame
namespace Go.Proofs.Ytlhpdalfnjhokaa
open Go.ChangeShapes Go.WideShapes Go.Deep Go.RowKit Go.ChangeAt
namespace Sk
open It
def inR (k : Int) : Prop := -9223372036854775808 ≤ k ∧ k ≤ 9223372036854775807
def intOf' : Value → Int
  | .int _ k => k
  | _ => 0
section
variable {H : Type} {enc : TypeId × Value → H} {W : World} {cs : List Value} {x : DataW H × List MemPlace} {held : Bool} {fuel : Nat}
theorem int_of_trod {v : Value} (h : DataW.trod enc Try.prog W 0 (fun _ => true) held fuel 3 [v] = some x) : ∃ k : Int, v = .int .i64 k ∧ inR k := by
  obtain ⟨k, e1, _, hk⟩ := DataW.trod_int Try.underlying3 h
  simp only [List.cons.injEq, and_true] at e1
  subst e1
  exact ⟨k, rfl, by unfold inR; simpa [Lit.wf, IntKind.min, IntKind.max, IntKind.signed, IntKind.bits] using hk⟩
/-- a struct of ints -/
theorem ints_of_trod {t : TypeId} {fs : Array Field} (hu : Try.prog.underlying t = some (.struct fs)) (hc : Try.prog.cellsOf t = fs.size) (h1 : oneCellFields Try.prog fs = true) (hall : fs.all (fun f => f.type == 3) = true)
    (hf : DataW.trod enc Try.prog W 0 (fun _ => true) held fuel t cs = some x) : ∃ ks : List Int, cs = ks.map (.int .i64) ∧ ks.length = fs.size ∧ ∀ k ∈ ks, inR k := by
  obtain ⟨ys, n, hn, hy, hlen, hyl, hfs⟩ := DataW.trod_struct hu hf
  rw [hc] at hlen
  have hat : ∀ j, j < cs.length → ∃ k : Int, cs[j]? = some (.int .i64 k) ∧ inR k := fun j hj => by
    have hjf : fs[j]? = some fs[j] := Array.getElem?_eq_getElem (by omega)
    obtain ⟨ho, hk⟩ := hone_of h1 j _ hjf
    have hty : fs[j].type = 3 := by simpa using (Array.all_eq_true.1 hall) j (by omega)
    have := hfs j _ hjf
    rw [ho, hk, hty, List.drop_eq_getElem_cons hj, List.take_succ_cons, List.take_zero, List.getElem?_eq_getElem (by omega : j < ys.length)] at this
    obtain ⟨k, e, hk⟩ := int_of_trod this
    exact ⟨k, by rw [List.getElem?_eq_getElem hj, e], hk⟩
  refine ⟨cs.map intOf', ?_, by simp [hlen], fun k hk => ?_⟩
  · refine List.ext_getElem? fun j => ?_
    rw [List.map_map, List.getElem?_map]
    rcases Nat.lt_or_ge j cs.length with hj | hj
    · obtain ⟨k, e, -⟩ := hat j hj
      rw [e]
      rfl
    · rw [List.getElem?_eq_none hj]
      rfl
  · obtain ⟨v, hv, rfl⟩ := List.mem_map.1 hk
    obtain ⟨j, hj, rfl⟩ := List.getElem_of_mem hv
    obtain ⟨k, e, hk⟩ := hat j hj
    rw [List.getElem?_eq_getElem hj, Option.some.injEq] at e
    rw [e]
    exact hk
theorem level_of_trod (hf : DataW.trod enc Try.prog W 0 (fun _ => true) held fuel 23 cs = some x) : ∃ a0 a1 a2 a3 : Int, cs = [.int .i64 a0, .int .i64 a1, .int .i64 a2, .int .i64 a3] ∧ inR a0 ∧ inR a1 ∧ inR a2 ∧ inR a3 := by
  obtain ⟨ks, rfl, hl, hk⟩ := ints_of_trod Try.underlying23 (by kernel_rfl) (by kernel_rfl) (by kernel_rfl) hf
  have hl4 : ks.length = 4 := hl
  match ks, hl4 with
  | [a, b, c, d], _ => exact ⟨a, b, c, d, rfl, hk a (by simp), hk b (by simp), hk c (by simp), hk d (by simp)⟩
theorem flow_of_trod (hf : DataW.trod enc Try.prog W 0 (fun _ => true) held fuel 25 cs = some x) : ∃ a0 a1 a2 a3 a4 a5 a6 : Int, cs = [.int .i64 a0, .int .i64 a1, .int .i64 a2, .int .i64 a3, .int .i64 a4, .int .i64 a5, .int .i64 a6] ∧ inR a0 ∧ inR a1 ∧ inR a2 ∧ inR a3 ∧ inR a4 ∧ inR a5 ∧ inR a6 := by
  obtain ⟨ks, rfl, hl, hk⟩ := ints_of_trod Try.underlying25 (by kernel_rfl) (by kernel_rfl) (by kernel_rfl) hf
  have hl7 : ks.length = 7 := hl
  match ks, hl7 with
  | [a, b, c, d, e, f, g], _ => exact ⟨a, b, c, d, e, f, g, rfl, hk a (by simp), hk b (by simp), hk c (by simp), hk d (by simp), hk e (by simp), hk f (by simp), hk g (by simp)⟩
set_option maxRecDepth 100000 in
theorem total_of_trod (hf : DataW.trod enc Try.prog W 0 (fun _ => true) held fuel 27 cs = some x) : ∃ (g : ByteArray) (a0 a1 a2 a3 a4 a5 a6 a7 a8 a9 a10 wy : Int), cs = [.string g, .int .i64 a0, .int .i64 a1, .int .i64 a2, .int .i64 a3, .int .i64 a4, .int .i64 a5, .int .i64 a6, .int .i64 a7, .int .i64 a8, .int .i64 a9, .int .i64 a10, .int .i64 wy] ∧ g.size ≤ maxLen ∧ inR wy := by
  obtain ⟨ys, n, hn, hy, hlen, hyl, hfs⟩ := DataW.trod_struct Try.underlying27 hf
  have hl : cs.length = 13 := hlen.trans (by kernel_rfl)
  obtain ⟨v0, v1, v2, v3, v4, v5, v6, v7, v8, v9, v10, v11, v12, rfl⟩ : ∃ v0 v1 v2 v3 v4 v5 v6 v7 v8 v9 v10 v11 v12, cs = [v0, v1, v2, v3, v4, v5, v6, v7, v8, v9, v10, v11, v12] := by
    match cs, hl with
    | [a, b, c, d, e, f, g, h, i, j, k, l, m], _ => exact ⟨a, b, c, d, e, f, g, h, i, j, k, l, m, rfl⟩
  have hys : ∀ j, j < 4 → ∃ y, ys[j]? = some y := fun j hj => ⟨_, List.getElem?_eq_getElem (by rw [hyl]; exact hj)⟩
  have g0 := hfs 0 _ rfl
  have g1 := hfs 1 _ rfl
  have g2 := hfs 2 _ rfl
  have g3 := hfs 3 _ rfl
  obtain ⟨y0, e0⟩ := hys 0 (by omega)
  obtain ⟨y1, e1⟩ := hys 1 (by omega)
  obtain ⟨y2, e2⟩ := hys 2 (by omega)
  obtain ⟨y3, e3⟩ := hys 3 (by omega)
  rw [e0] at g0
  rw [e1] at g1
  rw [e2] at g2
  rw [e3] at g3
  obtain ⟨g, c0, -, hg⟩ := DataW.trod_string Try.underlying9 (show DataW.trod enc Try.prog W 0 (fun _ => true) held n 9 [v0] = some y0 from g0)
  obtain ⟨a0, a1, a2, a3, c1, -⟩ := level_of_trod (show DataW.trod enc Try.prog W 0 (fun _ => true) held n 23 [v1, v2, v3, v4] = some y1 from g1)
  obtain ⟨a4, a5, a6, a7, a8, a9, a10, c2, -⟩ := flow_of_trod (show DataW.trod enc Try.prog W 0 (fun _ => true) held n 25 [v5, v6, v7, v8, v9, v10, v11] = some y2 from g2)
  obtain ⟨wy, c3, hw⟩ := int_of_trod (show DataW.trod enc Try.prog W 0 (fun _ => true) held n 3 [v12] = some y3 from g3)
  simp only [List.cons.injEq, and_true] at c0 c1 c2
  obtain ⟨r1, r2, r3, r4⟩ := c1
  obtain ⟨r5, r6, r7, r8, r9, r10, r11⟩ := c2
  subst c0 c3 r1 r2 r3 r4 r5 r6 r7 r8 r9 r10 r11
  exact ⟨g, a0, a1, a2, a3, a4, a5, a6, a7, a8, a9, a10, wy, rfl, hg, hw⟩
end
section
variable {H : Type} {enc : TypeId × Value → H} {W : World} {base : Nat} {v : Value} {d : DataW H} {p : List MemPlace} {held : Bool}
set_option maxRecDepth 100000 in
theorem open_level (hval : Value.okWide Try.prog W .any base 23 v) (h : DataW.Trod enc Try.prog W 0 (fun _ => true) held 23 v d p) : ∃ a0 a1 a2 a3 : Int, v = .agg #[.int .i64 a0, .int .i64 a1, .int .i64 a2, .int .i64 a3] := by
  obtain ⟨cs, rfl, -⟩ := okWide_struct Try.underlying23 hval
  obtain ⟨fuel, hf⟩ := h
  obtain ⟨a0, a1, a2, a3, e, -⟩ := level_of_trod hf
  refine ⟨a0, a1, a2, a3, ?_⟩
  congr 1
  exact Array.ext' e
set_option maxRecDepth 100000 in
theorem open_flow (hval : Value.okWide Try.prog W .any base 25 v) (h : DataW.Trod enc Try.prog W 0 (fun _ => true) held 25 v d p) : ∃ a0 a1 a2 a3 a4 a5 a6 : Int, v = .agg #[.int .i64 a0, .int .i64 a1, .int .i64 a2, .int .i64 a3, .int .i64 a4, .int .i64 a5, .int .i64 a6] := by
  obtain ⟨cs, rfl, -⟩ := okWide_struct Try.underlying25 hval
  obtain ⟨fuel, hf⟩ := h
  obtain ⟨a0, a1, a2, a3, a4, a5, a6, e, -⟩ := flow_of_trod hf
  refine ⟨a0, a1, a2, a3, a4, a5, a6, ?_⟩
  congr 1
  exact Array.ext' e
set_option maxRecDepth 100000 in
theorem open_total (hval : Value.okWide Try.prog W .any base 27 v) (h : DataW.Trod enc Try.prog W 0 (fun _ => true) held 27 v d p) : ∃ (g : ByteArray) (a0 a1 a2 a3 a4 a5 a6 a7 a8 a9 a10 wy : Int), v = .agg #[.string g, .int .i64 a0, .int .i64 a1, .int .i64 a2, .int .i64 a3, .int .i64 a4, .int .i64 a5, .int .i64 a6, .int .i64 a7, .int .i64 a8, .int .i64 a9, .int .i64 a10, .int .i64 wy] ∧ g.size ≤ maxLen := by
  obtain ⟨cs, rfl, -⟩ := okWide_struct Try.underlying27 hval
  obtain ⟨fuel, hf⟩ := h
  obtain ⟨g, a0, a1, a2, a3, a4, a5, a6, a7, a8, a9, a10, wy, e, hg, -⟩ := total_of_trod hf
  refine ⟨g, a0, a1, a2, a3, a4, a5, a6, a7, a8, a9, a10, wy, ?_, hg⟩
  congr 1
  exact Array.ext' e
end
end Sk
end Go.Proofs.Ytlhpdalfnjhokaa
