/-
  arguments opened: an op of the laws of moves; a slice of them.
  moves: what the law Once keeps.
  moves: the document's changes, in plain words.
  moves: the document's Come.
  A region that draws its order, some of whose operations make or write memory in one of two orders: a plan that forks.
  moves: the document's Forget.
-/
import Derived.Test.YtdbkkldgobkjcaaGreatMz9
import Derived.Laws.OwnMore
import Derived.Deep.AppendLies
import Derived.Deep.DeepMust
import Derived.Test.YtdbkkldgobkjcaaGreatMz4

set_option linter.unusedVariables false
set_option linter.unusedSimpArgs false
namespace Go.Proofs.YtdbkkldgobkjcaaGreat
open Go.ChangeShapes Go.WideShapes Go.Deep Go.RowKit Go.ChangeAt
namespace Mv
open It

/-- a call that a law of moves makes -/
structure OpV where
  kd : Int
  mv : Int
  fr : Int
  to_ : Int
  l : List It.Item
structure OkOp (o : OpV) : Prop where
  kd : -9223372036854775808 ≤ o.kd ∧ o.kd ≤ 9223372036854775807
  mv : -9223372036854775808 ≤ o.mv ∧ o.mv ≤ 9223372036854775807
  fr : -9223372036854775808 ≤ o.fr ∧ o.fr ≤ 9223372036854775807
  to_ : -9223372036854775808 ≤ o.to_ ∧ o.to_ ≤ 9223372036854775807
  l : Fits o.l
def opC (o : OpV) (lv : Value) : List Value := [.int .i64 o.kd, .int .i64 o.mv, .int .i64 o.fr, .int .i64 o.to_, lv]

set_option maxRecDepth 100000 in
theorem op_of_trod {H : Type} {enc : TypeId × Value → H} {W : World} {cs : List Value} {x : DataW H × List MemPlace} {held : Bool} {fuel : Nat} (hf : DataW.trod enc Tryz.prog W 0 (fun _ => true) held fuel 60 cs = some x) :
    ∃ (o : OpV) (lv : Value), cs = opC o lv ∧ OkOp o ∧ ItemsAt W 0 W.heap.size lv o.l := by
  obtain ⟨ys, n, hn, hy, hlen, hyl, hfs⟩ := DataW.trod_struct Tryz.underlying60 hf
  have hl5 : cs.length = 5 := hlen.trans (by kernel_rfl)
  obtain ⟨v0, v1, v2, v3, v4, rfl⟩ : ∃ v0 v1 v2 v3 v4, cs = [v0, v1, v2, v3, v4] := by
    match cs, hl5 with
    | [a, b, c, d, e], _ => exact ⟨a, b, c, d, e, rfl⟩
  have one : ∀ t, t = 3 → Tryz.prog.cellsOf t = 1 := fun t e => by subst e; kernel_rfl
  have hys : ∀ j, j < 5 → ∃ y, ys[j]? = some y := fun j hj => ⟨_, List.getElem?_eq_getElem (by rw [hyl]; exact hj)⟩
  have int_of : ∀ (j : Nat) (f : Field) (v : Value), j < 5 → f.type = 3 → DataW.trod enc Tryz.prog W 0 (fun _ => true) held n f.type [v] = ys[j]? → ∃ k : Int, v = .int .i64 k ∧ -9223372036854775808 ≤ k ∧ k ≤ 9223372036854775807 := fun j f v hj hft h => by
    obtain ⟨y, hy⟩ := hys j hj
    rw [hy, hft] at h
    obtain ⟨k, e1, _, hk⟩ := DataW.trod_int Tryz.underlying3 h
    simp only [List.cons.injEq, and_true] at e1
    subst e1
    exact ⟨k, rfl, by simpa [Lit.wf, IntKind.min, IntKind.max, IntKind.signed, IntKind.bits] using hk⟩
  have fld := fun (j : Nat) (f : Field) hj => by
    obtain ⟨ho, hk⟩ := hone_of (P := Tryz.prog) (by kernel_rfl) j f hj
    have := hfs j f hj
    rw [ho, hk] at this
    exact this
  have g0 := fld 0 _ rfl
  have g1 := fld 1 _ rfl
  have g2 := fld 2 _ rfl
  have g3 := fld 3 _ rfl
  have g4 := fld 4 _ rfl
  obtain ⟨k0, rfl, b0⟩ := int_of 0 _ v0 (by omega) rfl g0
  obtain ⟨k1, rfl, b1⟩ := int_of 1 _ v1 (by omega) rfl g1
  obtain ⟨k2, rfl, b2⟩ := int_of 2 _ v2 (by omega) rfl g2
  obtain ⟨k3, rfl, b3⟩ := int_of 3 _ v3 (by omega) rfl g3
  obtain ⟨y, hy4⟩ := hys 4 (by omega)
  rw [hy4] at g4
  obtain ⟨L, h1, h2, -⟩ := items_of_trod (v := v4) g4
  exact ⟨⟨k0, k1, k2, k3, L⟩, v4, rfl, ⟨b0, b1, b2, b3, h2⟩, h1⟩

set_option maxRecDepth 100000 in
theorem open_op {H : Type} {enc : TypeId × Value → H} {W : World} {base : Nat} {v : Value} {d : DataW H} {p : List MemPlace} {held : Bool} (hval : Value.okWide Tryz.prog W .any base 60 v)
    (h : DataW.Trod enc Tryz.prog W 0 (fun _ => true) held 60 v d p) :
    ∃ (o : OpV) (lv : Value), v = .agg (opC o lv).toArray ∧ OkOp o ∧ ItemsAt W 0 W.heap.size lv o.l := by
  obtain ⟨cs, rfl, -⟩ := okWide_struct Tryz.underlying60 hval
  obtain ⟨fuel, hf⟩ := h
  obtain ⟨o, lv, e, h1, h2⟩ := op_of_trod hf
  refine ⟨o, lv, ?_, h1, h2⟩
  congr 1
  rw [← e]
  simp [Value.cells]

/-- a slice of ops, all below B -/
def OpsAt (w : World) (B : Nat) (v : Value) (os : List OpV) : Prop :=
  ∃ A c, v = .slice A os.length c ∧ os.length ≤ c ∧ c ≤ maxLen ∧ ∀ j (h : j < os.length), ∃ b p lv, A = some ⟨b, p, none⟩ ∧ b < B ∧ ItemsAt w 0 B lv os[j].l ∧ ∀ i v, (opC os[j] lv)[i]? = some v → w.cell? ⟨b, p + j * 5 + i, none⟩ = some v
theorem OpsAt.below {w w' : World} {B : Nat} {v : Value} {os : List OpV} (h : OpsAt w B v os) (hb : Below B w w') : OpsAt w' B v os := by
  obtain ⟨A, c, e, h1, h2, h3⟩ := h
  refine ⟨A, c, e, h1, h2, fun j hj => ?_⟩
  obtain ⟨b, p, lv, ea, hbB, hI, hc⟩ := h3 j hj
  exact ⟨b, p, lv, ea, hbB, hI.below hb, fun i v hv => (hb.cell (p := ⟨b, p + j * 5 + i, none⟩) hbB).trans (hc i v hv)⟩
theorem OpsAt.form {w : World} {B : Nat} {v : Value} {os : List OpV} (h : OpsAt w B v os) : ∃ A c, v = .slice A os.length c ∧ os.length ≤ c ∧ c ≤ maxLen := by
  obtain ⟨A, c, e, h1, h2, -⟩ := h
  exact ⟨A, c, e, h1, h2⟩
theorem OpsAt.at_ {w : World} {B n c j : Nat} {A : Option Addr} {os : List OpV} (h : OpsAt w B (.slice A n c) os) (hj : j < os.length) : ∃ b p lv, A = some ⟨b, p, none⟩ ∧ b < B ∧ ItemsAt w 0 B lv os[j].l ∧
    w.cell? ⟨b, p + j * 5, none⟩ = some (.int .i64 os[j].kd) ∧ w.cell? ⟨b, p + j * 5 + 1, none⟩ = some (.int .i64 os[j].mv) ∧ w.cell? ⟨b, p + j * 5 + 2, none⟩ = some (.int .i64 os[j].fr) ∧ w.cell? ⟨b, p + j * 5 + 3, none⟩ = some (.int .i64 os[j].to_) ∧ w.cell? ⟨b, p + j * 5 + 4, none⟩ = some lv := by
  obtain ⟨A', c', e, h1, h2, h3⟩ := h
  cases e
  obtain ⟨b, p, lv, ea, hbB, hI, hc⟩ := h3 j hj
  exact ⟨b, p, lv, ea, hbB, hI, hc 0 _ rfl, hc 1 _ rfl, hc 2 _ rfl, hc 3 _ rfl, hc 4 _ rfl⟩

set_option maxRecDepth 100000 in
/-- an argument that is a slice of ops -/
theorem open_ops {H : Type} {enc : TypeId × Value → H} {W : World} {base : Nat} {v : Value} {d : DataW H} {p : List MemPlace} {held : Bool} (hval : Value.okWide Tryz.prog W .any base 52 v)
    (h : DataW.Trod enc Tryz.prog W 0 (fun _ => true) held 52 v d p) :
    ∃ os : List OpV, OpsAt W W.heap.size v os ∧ (∀ o ∈ os, OkOp o) ∧ ((d = .nil ∧ os = []) ∨ ∃ es sp, d = .slice es sp ∧ es.length = os.length) := by
  obtain ⟨A, n, c, rfl⟩ := okWide_slice Tryz.underlying52 hval
  obtain ⟨fuel, hf⟩ := h
  have hC : Tryz.prog.cellsOf 60 = 5 := by kernel_rfl
  rcases open_slice Tryz.underlying52 hf with h0 | ⟨a, len, cap, m, k, D, Pl, hcs, hb, hl, hm, hmm, hx, hi⟩
  · obtain ⟨h1, h2⟩ := h0
    simp only [Value.cells, List.cons.injEq, and_true] at h1
    cases h1
    simp only [Prod.mk.injEq] at h2
    exact ⟨[], ⟨none, 0, rfl, Nat.le_refl _, by unfold maxLen; omega, fun j hj => by simp at hj⟩, (fun x hx => by cases hx), .inl ⟨h2.1, rfl⟩⟩
  · simp only [Value.cells, List.cons.injEq, and_true] at hcs
    cases hcs
    simp only [if_true] at hmm
    subst hmm
    simp only [Prod.mk.injEq] at hx
    rw [hC] at hi
    have hel : ∀ i, i < n → ∃ x : OpV, OkOp x ∧ ∃ lv, ItemsAt W 0 W.heap.size lv x.l ∧ ∀ j v, (opC x lv)[j]? = some v → W.cell? (a.add (i * 5 + j)) = some v := by
      intro i hin
      obtain ⟨cs', hc, ht'⟩ := hi i (by omega)
      obtain ⟨_, hcl, hat⟩ := World.cells?_some hc
      obtain ⟨o, lv, e, h1, h2⟩ := op_of_trod ht'
      refine ⟨o, h1, lv, h2, fun j v hv => ?_⟩
      have hj : j < 5 := by
        have := (List.getElem?_eq_some_iff.1 hv).1
        simpa [opC] using this
      have hcell := hat (i := j) (by omega)
      rw [← Go.Deep.add_add, hcell, e]
      exact hv
    obtain ⟨os, hLn, hL⟩ := list_of n _ hel
    refine ⟨os, ?_, fun x hx => ?_, .inr ⟨_, _, hx.1, by simp [hLn]⟩⟩
    · subst hLn
      refine ⟨_, _, rfl, hl, hm, fun j hj => ?_⟩
      obtain ⟨_, lv, hI, hc⟩ := hL j hj
      obtain ⟨_, lv0, -, hc0⟩ := hL 0 (by omega)
      have h1 := cell_addr (hc0 0 _ rfl)
      obtain ⟨b, o, sp⟩ := a
      have hsp : sp = none := by
        have := h1.1
        unfold Addr.add at this
        simpa using this
      subst hsp
      have hb : b < W.heap.size := by
        have := h1.2
        rw [addr_add] at this
        exact this
      refine ⟨b, o, lv, rfl, hb, hI, fun i v hv => ?_⟩
      have := hc i v hv
      rw [addr_add] at this
      rw [← this]
      congr 2
      omega
    · obtain ⟨i, hi, rfl⟩ := List.getElem_of_mem hx
      exact (hL i hi).1
end Mv
end Go.Proofs.YtdbkkldgobkjcaaGreat

namespace Go.Proofs.YtdbkkldgobkjcaaGreat
open Go.RowKit Go.Maps
namespace Mv
open It

theorem findW_ins_same {d : Way} : ∀ {ds : List Way}, findW ds d.mv = none → findW (insW d ds) d.mv = some d
  | [], _ => by rw [insW, findW_cons, if_pos rfl]
  | c :: r, h => by
    rw [findW_cons] at h
    by_cases e : c.mv = d.mv
    · rw [if_pos e] at h; cases h
    · rw [if_neg e] at h
      unfold insW
      split
      · rw [findW_cons, if_pos rfl]
      · rw [findW_cons, if_neg e]
        exact findW_ins_same h
theorem findW_ins_other {d : Way} {k : Int} (hk : d.mv ≠ k) : ∀ {ds : List Way}, findW (insW d ds) k = findW ds k
  | [] => by rw [insW, findW_cons, if_neg hk]
  | c :: r => by
    unfold insW
    split
    · rw [findW_cons, if_neg hk]
    · rw [findW_cons, findW_cons, findW_ins_other hk]
theorem findW_del_same (k : Int) : ∀ (ds : List Way), findW (delW ds k) k = none
  | [] => rfl
  | c :: r => by
    unfold delW
    rw [List.filter_cons]
    split
    · rename_i h
      rw [findW_cons, if_neg (by simpa using h)]
      exact findW_del_same k r
    · exact findW_del_same k r
theorem findW_del_other {j k : Int} (hne : k ≠ j) : ∀ (ds : List Way), findW (delW ds j) k = findW ds k
  | [] => rfl
  | c :: r => by
    unfold delW
    rw [List.filter_cons]
    split
    · rw [findW_cons, findW_cons]
      rw [show findW (r.filter _) k = findW r k from findW_del_other hne r]
    · rename_i h
      rw [findW_cons, if_neg (by simp at h; omega)]
      exact findW_del_other hne r
theorem findW_put (ds : List Way) (d : Way) (k : Int) : findW (putW ds d) k = if d.mv = k then some d else findW ds k := by
  unfold putW
  by_cases e : d.mv = k
  · rw [if_pos e, ← e]
    exact findW_ins_same (findW_del_same _ _)
  · rw [if_neg e, findW_ins_other e, findW_del_other (fun h => e h.symm)]

/-- is a move known that has not come? -/
def openW (ds : List Way) (k : Int) : Bool := match findW ds k with | some d => !d.came | none => false
/-- what the law keeps in its two maps: which moves are open, and what went -/
structure Once (ds : List Way) (mo mw : List (Int × Value)) : Prop where
  op : ∀ k, (mGet mo k).getD (.bool false) = .bool (openW ds k)
  wt : ∀ k d, findW ds k = some d → d.came = false → (mGet mw k).getD (.int .i64 0) = .int .i64 (ofSum sa d.l)
theorem Once.nil : Once [] [] [] := ⟨fun k => rfl, fun k d h => by cases h⟩
theorem Once.is_int {ds : List Way} {mo mw : List (Int × Value)} (h : Once ds mo mw) (k : Int) : (mGet mo k).getD (.bool false) = .bool (openW ds k) := h.op k
theorem go_code {ds : List Way} {mv fr to_ : Int} {l : List It.Item} (h : (goOf ds mv fr to_ l).2 = 0) : goOf ds mv fr to_ l = (putW ds ⟨mv, fr, to_, l, false⟩, 0) ∧ findW ds mv = none := by
  unfold goOf at h ⊢
  split at h
  · simp at h
  · rename_i h1
    split at h
    · simp at h
    · rename_i h2
      split at h
      · simp at h
      · rename_i h3
        split at h
        · simp at h
        · rename_i h4
          rw [if_neg h1, if_neg h2, if_neg h3, if_neg h4]
          exact ⟨rfl, by simpa using h3⟩
theorem go_same {ds : List Way} {mv fr to_ : Int} {l : List It.Item} (h : (goOf ds mv fr to_ l).2 ≠ 0) : (goOf ds mv fr to_ l).1 = ds := by
  unfold goOf at h ⊢
  split
  · rfl
  · rename_i h1
    rw [if_neg h1] at h
    split
    · rfl
    · rename_i h2
      rw [if_neg h2] at h
      split
      · rfl
      · rename_i h3
        rw [if_neg h3] at h
        split
        · rfl
        · rename_i h4
          rw [if_neg h4] at h
          exact (h rfl).elim
theorem Once.go {ds : List Way} {mo mw : List (Int × Value)} (h : Once ds mo mw) {mv fr to_ : Int} {l : List It.Item} : Once (putW ds ⟨mv, fr, to_, l, false⟩) (mPut intK mo mv (.bool true)) (mPut intK mw mv (.int .i64 (ofSum sa l))) := by
  refine ⟨fun k => ?_, fun k d hf hc => ?_⟩
  · unfold openW
    rw [findW_put]
    by_cases e : mv = k
    · subst e
      rw [if_pos rfl, mGet_put_same]
      rfl
    · rw [if_neg e, mGet_put_other _ _ _ _ (fun h => e h.symm)]
      exact h.op k
  · rw [findW_put] at hf
    by_cases e : mv = k
    · subst e
      rw [if_pos rfl] at hf
      cases hf
      rw [mGet_put_same]
      rfl
    · rw [if_neg e] at hf
      rw [mGet_put_other _ _ _ _ (fun h => e h.symm)]
      exact h.wt k d hf hc
theorem go_open {ds : List Way} {mv : Int} (h : findW ds mv = none) : openW ds mv = false := by unfold openW; rw [h]
/-- Come: it comes where it is open, with what went -/
theorem come_open (ds : List Way) (k : Int) : ((comeOf ds k).2.2 == 0) = openW ds k := by
  unfold comeOf openW
  cases findW ds k with
  | none => rfl
  | some d =>
    dsimp only
    cases d.came <;> rfl
theorem come_list {ds : List Way} {k : Int} {mo mw : List (Int × Value)} (h : Once ds mo mw) (ho : openW ds k = true) : (mGet mw k).getD (.int .i64 0) = .int .i64 (ofSum sa (comeOf ds k).2.1) := by
  unfold openW at ho
  unfold comeOf
  cases hf : findW ds k with
  | none => rw [hf] at ho; cases ho
  | some d =>
    rw [hf] at ho
    have hc : d.came = false := by simpa using ho
    dsimp only
    rw [hc]
    exact h.wt k d hf hc
theorem Once.come {ds : List Way} {mo mw : List (Int × Value)} (h : Once ds mo mw) (k : Int) : Once (comeOf ds k).1 (mPut intK mo k (.bool false)) mw := by
  unfold comeOf
  have hno : openW ds k = false → Once ds (mPut intK mo k (.bool false)) mw := fun ho => by
    refine ⟨fun j => ?_, h.wt⟩
    by_cases e : j = k
    · subst e; rw [mGet_put_same, ho]; rfl
    · rw [mGet_put_other _ _ _ _ e]; exact h.op j
  cases hf : findW ds k with
  | none => exact hno (go_open hf)
  | some d =>
    have hmv := (findW_mem hf).2
    dsimp only
    cases hc : d.came with
    | true => exact hno (by unfold openW; rw [hf]; show (!d.came) = false; rw [hc]; rfl)
    | false =>
      refine ⟨fun j => ?_, fun j c hj hcc => ?_⟩
      · unfold openW
        rw [show (if false = true then (ds, ([] : List It.Item), (5 : Int)) else (putW ds { d with came := true }, d.l, 0)).1 = putW ds { d with came := true } from rfl, findW_put]
        by_cases e : j = k
        · subst e
          rw [if_pos hmv, mGet_put_same]
          rfl
        · rw [if_neg (by show ¬ d.mv = j; rw [hmv]; exact fun h => e h.symm), mGet_put_other _ _ _ _ e]
          exact h.op j
      · rw [show (if false = true then (ds, ([] : List It.Item), (5 : Int)) else (putW ds { d with came := true }, d.l, 0)).1 = putW ds { d with came := true } from rfl, findW_put] at hj
        by_cases e : j = k
        · subst e
          rw [if_pos hmv] at hj
          cases hj
          cases hcc
        · rw [if_neg (by show ¬ d.mv = j; rw [hmv]; exact fun h => e h.symm)] at hj
          exact h.wt j c hj hcc
theorem forget_code {ds : List Way} {k : Int} (h : (forgetOf ds k).2 = 0) : openW ds k = false ∧ (forgetOf ds k).1 = delW ds k := by
  unfold forgetOf at h ⊢
  unfold openW
  cases hf : findW ds k with
  | none => rw [hf] at h; simp at h
  | some d =>
    rw [hf] at h
    dsimp only at h ⊢
    cases hc : d.came with
    | true => exact ⟨rfl, rfl⟩
    | false => rw [hc] at h; simp at h
theorem forget_same {ds : List Way} {k : Int} (h : (forgetOf ds k).2 ≠ 0) : (forgetOf ds k).1 = ds := by
  unfold forgetOf at h ⊢
  cases hf : findW ds k with
  | none => rfl
  | some d =>
    rw [hf] at h
    dsimp only at h ⊢
    cases hc : d.came with
    | true => rw [hc] at h; simp at h
    | false => rfl
theorem Once.forget {ds : List Way} {mo mw : List (Int × Value)} (h : Once ds mo mw) (k : Int) : Once (forgetOf ds k).1 mo mw := by
  by_cases hc : (forgetOf ds k).2 = 0
  · obtain ⟨h1, h2⟩ := forget_code hc
    rw [h2]
    refine ⟨fun j => ?_, fun j d hj hcc => ?_⟩
    · rw [h.op j]
      by_cases e : j = k
      · subst e
        rw [h1]
        unfold openW
        rw [findW_del_same]
      · unfold openW
        rw [findW_del_other e]
    · by_cases e : j = k
      · subst e
        rw [findW_del_same] at hj
        cases hj
      · rw [findW_del_other e] at hj
        exact h.wt j d hj hcc
  · rw [forget_same hc]; exact h
end Mv
end Go.Proofs.YtdbkkldgobkjcaaGreat

namespace Go.Proofs.YtdbkkldgobkjcaaGreat
open Go.RowKit Go.Maps
namespace Mv
open It

abbrev Sorted (ds : List Way) : Prop := ds.Pairwise fun c d => c.mv < d.mv
theorem put_set {d : Way} : ∀ {ds : List Way}, Sorted ds → ∀ (i : Nat) (h : i < ds.length), ds[i].mv = d.mv → putW ds d = ds.set i d
  | c :: r, hp, 0, _, he => by
    replace hp := List.pairwise_cons.1 hp
    have he : c.mv = d.mv := he
    have h1 : delW (c :: r) d.mv = r := by
      unfold delW
      rw [List.filter_cons, if_neg (by simp [he]), List.filter_eq_self]
      intro x hx
      have := hp.1 x hx
      simp
      omega
    unfold putW
    rw [h1, ins_first (fun x hx => by have := hp.1 x hx; omega)]
    rfl
  | c :: r, hp, i + 1, h, he => by
    replace hp := List.pairwise_cons.1 hp
    have hi : i < r.length := by simpa using h
    have he : r[i].mv = d.mv := he
    have hc := hp.1 r[i] (List.getElem_mem hi)
    have ih := put_set hp.2 i hi he
    unfold putW at ih ⊢
    have h1 : delW (c :: r) d.mv = c :: delW r d.mv := by
      unfold delW
      rw [List.filter_cons, if_pos (by simp; omega)]
    rw [h1, insW, if_neg (by omega), ih]
    rfl
theorem del_erase : ∀ {ds : List Way}, Sorted ds → ∀ (i : Nat) (h : i < ds.length), delW ds ds[i].mv = ds.take i ++ ds.drop (i + 1)
  | c :: r, hp, 0, _ => by
    replace hp := List.pairwise_cons.1 hp
    show delW (c :: r) c.mv = r
    unfold delW
    rw [List.filter_cons, if_neg (by simp), List.filter_eq_self]
    intro x hx
    have := hp.1 x hx
    simp
    omega
  | c :: r, hp, i + 1, h => by
    replace hp := List.pairwise_cons.1 hp
    have hi : i < r.length := by simpa using h
    have hc := hp.1 r[i] (List.getElem_mem hi)
    have ih := del_erase hp.2 i hi
    show delW (c :: r) r[i].mv = c :: r.take i ++ r.drop (i + 1)
    rw [List.cons_append, ← ih]
    unfold delW
    rw [List.filter_cons, if_pos (by simp; omega)]
theorem ins_at {d : Way} : ∀ {ds : List Way} (j : Nat), j ≤ ds.length → (∀ i (h : i < ds.length), i < j → ds[i].mv < d.mv) → (∀ h : j < ds.length, d.mv < ds[j].mv) → insW d ds = ds.take j ++ [d] ++ ds.drop j
  | [], j, _, _, _ => by simp [insW]
  | c :: r, 0, _, _, h => by
    have : d.mv < c.mv := h (by simp)
    rw [insW, if_pos this]
    rfl
  | c :: r, j + 1, hj, h1, h => by
    have h0 := h1 0 (by simp) (by omega)
    simp only [List.getElem_cons_zero] at h0
    rw [insW, if_neg (by omega), ins_at j (by simpa using hj) (fun i hi hij => h1 (i + 1) (by simpa using hi) (by omega)) (fun hh => h (by simpa using hh))]
    rfl
theorem idx_find {ds : List Way} {k : Int} : (idxW ds k = -1 ∧ findW ds k = none) ∨ ∃ (i : Nat) (h : i < ds.length), idxW ds k = i ∧ findW ds k = some ds[i] ∧ ds[i].mv = k := by
  unfold idxW findW
  cases hf : ds.findIdx? (fun d => decide (d.mv = k)) with
  | none =>
    refine .inl ⟨rfl, ?_⟩
    rw [List.find?_eq_none]
    rw [List.findIdx?_eq_none_iff] at hf
    intro d hd
    simpa using hf d hd
  | some i =>
    rw [List.findIdx?_eq_some_iff_getElem] at hf
    obtain ⟨hi, he, hlt⟩ := hf
    refine .inr ⟨i, hi, rfl, ?_, by simpa using he⟩
    rw [List.find?_eq_some_iff_getElem]
    exact ⟨he, i, hi, rfl, fun j hj => by simpa using hlt j hj⟩
theorem idx_find' (ds : List Way) (k : Int) : decide (0 ≤ idxW ds k) = (findW ds k).isSome := by
  rcases @idx_find ds k with ⟨h1, h2⟩ | ⟨i, hi, h1, h2, -⟩
  · rw [h1, h2]; rfl
  · rw [h1, h2]; simp
theorem sorted_ins {d : Way} : ∀ {ds : List Way}, Sorted ds → (∀ c ∈ ds, c.mv ≠ d.mv) → Sorted (insW d ds)
  | [], _, _ => by simp [insW, Sorted]
  | c :: r, hp, hn => by
    have hp' := List.pairwise_cons.1 hp
    have hc := hn c (by simp)
    unfold insW
    split
    · rename_i h
      refine List.pairwise_cons.2 ⟨fun x hx => ?_, hp⟩
      rcases List.mem_cons.1 hx with rfl | hx
      · exact h
      · have := hp'.1 x hx; omega
    · refine List.pairwise_cons.2 ⟨fun x hx => ?_, sorted_ins hp'.2 (fun y hy => hn y (by simp [hy]))⟩
      rcases insW_mem hx with rfl | hx
      · omega
      · exact hp'.1 x hx
end Mv
end Go.Proofs.YtdbkkldgobkjcaaGreat

namespace Go.Proofs.YtdbkkldgobkjcaaGreat
open Go.RowKit Go.Maps
namespace Mv
open It

theorem way_info : (Tryz.prog.info? 108).map (fun i => (i.zero, i.size, i.bytes)) = some (some (.agg #[.int .i64 0, .int .i64 0, .int .i64 0, .slice none 0 0, .bool false]), 5, 56) := by kernel_rfl
theorem docCells_came : ∀ (es : List (Way × Value)) (i : Nat) (h : i < es.length), docCells (es.set i ({ es[i].1 with came := true }, es[i].2)) = (docCells es).set (i * 5 + 4) (.bool true)
  | p :: r, 0, _ => rfl
  | p :: r, i + 1, h => by
    have := docCells_came r i (by simpa using h)
    have e : (i + 1) * 5 + 4 = (i * 5 + 4) + 5 := by omega
    simp only [docCells, List.set_cons_succ, List.flatMap_cons, List.getElem_cons_succ] at this ⊢
    rw [this, e]
    rfl
theorem docCells_one {w : World} {base : Nat} {es : List (Way × Value)} (h : ∀ p ∈ es, ItemsAt w 0 base p.2 p.1.l) : ∀ y ∈ docCells es, y.oneCell' = true := by
  intro y hy
  obtain ⟨p, hp, hy⟩ := List.mem_flatMap.1 hy
  obtain ⟨A, c, e, -⟩ := (h p hp).form
  simp only [wayC, List.mem_cons, List.not_mem_nil, or_false] at hy
  rcases hy with rfl | rfl | rfl | rfl | rfl
  · rfl
  · rfl
  · rfl
  · rw [e]; rfl
  · rfl

set_option maxRecDepth 100000 in
set_option maxHeartbeats 4000000 in
theorem refcome_calls (k : Int) (xb base : Nat) (es : List (Way × Value)) (w : World) (h : DocAt w xb base es) (hs : Sorted (es.map (·.1))) (hB : base ≤ w.heap.size) (hxb : base ≤ xb) :
    Calls Tryz.prog 29 #[.pointer (some ⟨xb, 0, none⟩), .int .i64 k] w fun e w' => ∃ es' lv, e = .returned (.tuple #[lv, .int .i64 (comeOf (es.map (·.1)) k).2.2]) ∧
      ItemsAt w' 0 base lv (comeOf (es.map (·.1)) k).2.1 ∧ es'.map (·.1) = (comeOf (es.map (·.1)) k).1 ∧ DocAt w' xb base es' ∧ w.grownBy w' (some xb) := by
  have cF := Lib.hid (find_calls k xb base es w h)
  have H := Lib.hid h
  obtain ⟨i0, hi0, hz0⟩ := Option.map_eq_some_iff.1 way_info
  simp only [Prod.mk.injEq] at hz0
  obtain ⟨hz0, hz1, hz2⟩ := hz0
  rcases @idx_find (es.map (·.1)) k with ⟨h1, h2⟩ | ⟨i, hi, h1, h2, hk⟩
  · have hC : comeOf (es.map (·.1)) k = (es.map (·.1), [], 4) := by unfold comeOf; rw [h2]
    rw [hC]
    rw [h1] at cF
    clear hC h h1 h2
    go_enter Tryz.func29, Tryz.ntmps29
    go_wp2_with (go_at_call 61; refine cF.out.mono ?_; rintro e W ⟨rfl, rfl⟩)
    go_ret2
    exact ⟨es, _, rfl, ItemsAt.nil _ _ _, rfl, H.out, only_of_below (Below.refl _ _) _⟩
  · rw [h1] at cF
    have hi2 : i < es.length := by simpa using hi
    have hds : (es.map (·.1))[i] = es[i].1 := by simp
    rw [hds] at h2 hk
    obtain ⟨v, hx, hv⟩ := h.ob
    have hlen := h.len
    have hS := Sl.of_own hv
    have hone := docCells_one h.nest
    have hIi := h.nest es[i] (List.getElem_mem hi2)
    obtain ⟨A, c, rfl, hc1, hc2, -⟩ := hS.at_
    unfold maxLen at hc2
    obtain ⟨bo, o, rfl, -, hbo, c0, c1, c2, c3, c4⟩ := docAt_cell hS hi2
    have g0 := hx.cell (j := 0) (v := .slice (some ⟨bo, o, none⟩) es.length c) rfl
    have hgx := hx.frozen 0
    obtain ⟨Al, cl, hlv, -⟩ := hIi.form
    have hdi : decide ((i : Int) < 0) = false := by simp
    have hdl : decide ((i : Int) < (es.length : Int)) = true := by simp; omega
    cases hcm : es[i].1.came with
    | true =>
      have hC : comeOf (es.map (·.1)) k = (es.map (·.1), [], 5) := by unfold comeOf; rw [h2]; show (if es[i].1.came then _ else _) = _; rw [if_pos hcm]
      rw [hC]
      rw [hcm] at c4
      clear hC h1 h2 h hv hS hone hIi hds
      go_enter Tryz.func29, Tryz.ntmps29
      go_wp2_with (go_at_call 61; refine cF.out.mono ?_; rintro e W ⟨rfl, rfl⟩)
      go_ret2
      exact ⟨es, _, rfl, ItemsAt.nil _ _ _, rfl, H.out, only_of_below (Below.refl _ _) _⟩
    | false =>
      have hC : comeOf (es.map (·.1)) k = ((es.map (·.1)).set i { es[i].1 with came := true }, es[i].1.l, 0) := by
        unfold comeOf; rw [h2]; show (if es[i].1.came then _ else _) = _; rw [hcm]
        show (putW (es.map (·.1)) { es[i].1 with came := true }, es[i].1.l, (0 : Int)) = _
        rw [put_set hs i hi (by simp)]
      rw [hC]
      rw [hcm] at c4
      have HS := Lib.hid hS
      have HONE := Lib.hid hone
      clear hC h1 h2 h hS hone hds
      go_enter Tryz.func29, Tryz.ntmps29
      have hal := (Below.refl w.heap.size w).alloc (Nat.le_refl _) (.cells #[] 108)
      have g0a : (w.alloc (.cells #[] 108)).cell? ⟨xb, 0, none⟩ = some (.slice (some ⟨bo, o, none⟩) es.length c) := (hal.cell (p := ⟨xb, 0, none⟩) hx.lt).trans g0
      go_wp2_with (first
        | (go_at_call 61; refine cF.out.mono ?_; rintro e W ⟨rfl, rfl⟩)
        | (at_builtin; go_must (refine wpList_append_sl _ rfl (.tmp 21) (.tmp 25) _ rfl w.heap.size 108 i0 _ 5 56 Tryz.underlying56 hi0 hz0 hz1 hz2 rfl (by omega) (.slice (some ⟨w.heap.size, 0, none⟩) 0 0) 0 [] rfl (World.ownsRow_lit w #[] 0 (Nat.le_refl _) (Nat.zero_le _) rfl) base w.heap.size _ es.length (docCells es) rfl (Sl.below HS.out hal) HONE.out (by unfold maxLen; omega) (by omega) (by simp) ?_; intro v1 w1 hv1 hg1 hat1; have hB1 : Below w.heap.size w w1 := hal.grown hg1 (by simp) (fun g hg => by cases hg; exact Nat.le_refl _); have hown : w1.ownsRow w.heap.size 108 5 v1 es.length (docCells es) := (by simpa using hv1); obtain ⟨g, cap, rfl, hgl, hgs⟩ := World.ownsRow.form hown (show 0 < es.length by omega); have e4 : w1.cell? ⟨g, i * 5 + 4, none⟩ = some (.bool false) := (hown.cellAt _ (by omega)).trans ((docCells_get es i 4 hi2 (by omega)).trans (by simp [wayC, hcm])); have e5 := hown.frozenAt (i * 5 + 4); have e6 := (hx.same hB1).cell (j := 0) (v := .slice (some ⟨bo, o, none⟩) es.length c) rfl; have e7 := (hx.same hB1).frozen 0; have e8 : w1.cell? ⟨g, i * 5 + 3, none⟩ = some (.slice Al es[i].1.l.length cl) := (hown.cellAt _ (by omega)).trans ((docCells_get es i 3 hi2 (by omega)).trans (by simp [wayC, hlv])); clear hg1 hat1 hv1)))
      obtain ⟨st1, st2⟩ := hown.stored (i * 5 + 4) (.bool true)
      have hxl := hx.lt
      have hB2 : Below w.heap.size w (w1.setCell ⟨g, i * 5 + 4, none⟩ (.bool true)) := hB1.grown st2 hB1.size (fun k e => by cases e; exact hgl)
      have hx2 := ((hx.same hB1).other (show xb ≠ g by omega) (i * 5 + 4) (.bool true)).set 0 (.slice (some ⟨g, 0, none⟩) es.length cap)
      have hg3 := grownBy_set (w1.setCell ⟨g, i * 5 + 4, none⟩ (.bool true)) xb 0 (.slice (some ⟨g, 0, none⟩) es.length cap)
      have hrow := ownsRow_far st1 hg3 hxl
      have hgw := (only_of_below hB2 (some xb)).trans hg3
      have hBb : Below base w ((w1.setCell ⟨g, i * 5 + 4, none⟩ (.bool true)).setCell ⟨xb, 0, none⟩ (.slice (some ⟨g, 0, none⟩) es.length cap)) := (Below.refl base w).grown hgw hB (fun k e => by cases e; exact hxb)
      rw [← docCells_came es i hi2] at hrow
      have hnest : ∀ p ∈ es.set i ({ es[i].1 with came := true }, es[i].2), ItemsAt ((w1.setCell ⟨g, i * 5 + 4, none⟩ (.bool true)).setCell ⟨xb, 0, none⟩ (.slice (some ⟨g, 0, none⟩) es.length cap)) 0 base p.2 p.1.l := by
        intro p hp
        rcases List.mem_or_eq_of_mem_set hp with hp | rfl
        · exact (H.out.nest p hp).below hBb
        · exact hIi.below hBb
      have hI9 := hIi.below hBb
      rw [hlv] at hI9
      go_ret2
      refine ⟨es.set i ({ es[i].1 with came := true }, es[i].2), _, rfl, hI9, by rw [List.map_set], ⟨⟨_, hx2, ?_⟩, hnest, by simpa using hlen⟩, hgw⟩
      rw [List.length_set]
      exact ownsRow_wide hrow hB
end Mv
end Go.Proofs.YtdbkkldgobkjcaaGreat

namespace Go.Proofs.YtdbkkldgobkjcaaGreat
open Go.RowKit
namespace Pt
open Pu
inductive Plan where
  | nil
  | look (i : Nat) (p : Plan)
  | make (i : Nat) (p : Plan)
  | fork (i : Nat) (p : Plan) (j : Nat) (q : Plan)
inductive PlanO where
  | nil
  | look (o : Oper) (p : PlanO)
  | make (o : Oper) (p : PlanO)
  | fork (o : Oper) (p : PlanO) (o' : Oper) (q : PlanO)
def rest : Plan → List Nat
  | .nil => []
  | .look i p => i :: rest p
  | .make i p => i :: rest p
  | .fork i p _ _ => i :: rest p
section
variable {P : Program} {ops : Array Oper} {Q : Exit → Act → World → Prop} {md : Region.Mode}
def named (ops : Array Oper) : Plan → PlanO
  | .nil => .nil
  | .look i p => match ops[i]? with | some o => .look o (named ops p) | none => .nil
  | .make i p => match ops[i]? with | some o => .make o (named ops p) | none => .nil
  | .fork i p j q => match ops[i]?, ops[j]? with | some o, some o' => .fork o (named ops p) o' (named ops q) | _, _ => .nil
/-- is this operation behind all others, by its own edges and those of the ones it is behind? -/
def reach2 (ops : Array Oper) (o : Oper) (j : Nat) : Bool := o.after.any fun e => Region.binds .any e && (e.on == j || match ops[e.on]? with | some q => q.after.any fun e' => Region.binds .any e' && e'.on == j | none => false)
def endsAll2 (ops : Array Oper) (o : Oper) : Bool := decide (((List.range ops.size).filter fun j => !reach2 ops o j).length ≤ 1)
theorem endsAll2_at {o : Oper} {i : Nat} {listed : Array Bool} (h : endsAll2 ops o = true) (hsz : listed.size = ops.size) (hi : i < ops.size) (hun : listed.getD i true = false)
    (hall : ∀ e ∈ o.after, Region.binds .any e = true → listed.getD e.on true = true) (hcl : ∀ k q, ops[k]? = some q → listed.getD k true = true → ∀ e ∈ q.after, Region.binds .any e = true → listed.getD e.on true = true) : ∀ j, listed.getD j true = false → j = i := by
  intro j hj
  have hjs : j < ops.size := by
    rcases Nat.lt_or_ge j ops.size with h | h
    · exact h
    · simp [show ¬ j < listed.size by omega] at hj
  have free : ∀ k, listed.getD k true = false → reach2 ops o k = false := fun k hk => by
    cases hx : reach2 ops o k with
    | false => rfl
    | true =>
      obtain ⟨e, he, hbe⟩ := Array.any_eq_true'.1 hx
      simp only [Bool.and_eq_true, Bool.or_eq_true, beq_iff_eq] at hbe
      have h1 := hall e he hbe.1
      rcases hbe.2 with h2 | h2
      · rw [h2, hk] at h1
        cases h1
      · cases hq : ops[e.on]? with
        | none => rw [hq] at h2; cases h2
        | some q =>
          rw [hq] at h2
          obtain ⟨e', he', hbe'⟩ := Array.any_eq_true'.1 h2
          simp only [Bool.and_eq_true, beq_iff_eq] at hbe'
          have h3 := hcl e.on q hq h1 e' he' hbe'.1
          rw [hbe'.2, hk] at h3
          cases h3
  unfold endsAll2 at h
  have hlen := of_decide_eq_true h
  have mi : i ∈ (List.range ops.size).filter fun j => !reach2 ops o j := List.mem_filter.2 ⟨List.mem_range.2 hi, by rw [free i hun]; rfl⟩
  have mj : j ∈ (List.range ops.size).filter fun j => !reach2 ops o j := List.mem_filter.2 ⟨List.mem_range.2 hjs, by rw [free j hj]; rfl⟩
  generalize ((List.range ops.size).filter fun j => !reach2 ops o j) = F at *
  match F, hlen with
  | [], _ => cases mi
  | [x], _ =>
    rw [List.mem_singleton] at mi mj
    rw [mi, mj]
  | _ :: _ :: _, h => simp at h
/-- what one making operation owes -/
def Owes (P : Program) (ops : Array Oper) (a : Act) (o : Oper) (B J : World → Prop) (S : Act → (World → Prop) → (World → Prop) → Prop) : Prop :=
  Region.wanted o (yielded ops a.tmps) = true ∧ ∀ w, J w → wpList P ops (fun e a' w' => e = .normal ∧ ∃ v B' J', a' = a.put o.dst v ∧ J' w' ∧ S (a.put o.dst v) B' J' ∧ (∀ w, J' w → B' w) ∧ (endsAll2 ops o = true ∨ ∀ w, B' w → B w)) [o] a w
def SeqT (P : Program) (ops : Array Oper) (Q : Exit → Act → World → Prop) : PlanO → Act → (World → Prop) → (World → Prop) → Prop
  | .nil, a, _, J => ∀ w, J w → Q .normal a w
  | .look o p, a, B, J =>
    if Region.wanted o (yielded ops a.tmps) = true then
      ∃ v, (∀ w, B w → wpList P ops (fun e a' w' => e = .normal ∧ a' = a.put o.dst v ∧ w' = w) [o] a w) ∧ SeqT P ops Q p (a.put o.dst v) B J
    else SeqT P ops Q p (a.put o.dst undef) B J
  | .make o p, a, B, J => Owes P ops a o B J (SeqT P ops Q p)
  | .fork o p o' q, a, B, J => Owes P ops a o B J (SeqT P ops Q p) ∧ Owes P ops a o' B J (SeqT P ops Q q)

def hd (ops : Array Oper) (i : Nat) (r : List Nat) : Bool :=
  (match ops[i]? with
    | none => false
    | some o =>
      (match o.op with | .select .. => false | .defer _ => false | _ => true) &&
      ((o.looksAt ops).all fun t => o.dst != some t && r.all fun p => match ops[p]? with | some q => q.dst != some t | none => false) &&
      (match o.dst with | none => true | some d => r.all fun p => match ops[p]? with | some q => q.dst != some d | none => false)) &&
  (r.all fun p => p != i)
def okT (md : Region.Mode) (ops : Array Oper) : Plan → Bool
  | .nil => true
  | .look i p => hd ops i (rest p) && okT md ops p
  | .make i p => hd ops i (rest p) && ((rest p).all fun k => bound md ops k (i :: rest p)) && okT md ops p
  | .fork i p j q => hd ops i (rest p) && hd ops j (rest q) && (rest p).contains j && (rest q).contains i && ((rest p).all fun k => k == j || (rest q).contains k) && ((rest q).all fun k => k == i || (rest p).contains k) &&
      ((rest p).all fun k => k == j || bound md ops k (i :: rest p)) && okT md ops p && okT md ops q
def whole (ops : Array Oper) (p : Plan) : Bool := (List.range ops.size).all fun i => (rest p).contains i

theorem hd_at {i : Nat} {r : List Nat} (h : hd ops i r = true) : ∃ o, ops[i]? = some o ∧ (match o.op with | .select .. => false | .defer _ => false | _ => true) = true ∧
    (∀ t ∈ o.looksAt ops, o.dst ≠ some t ∧ ∀ p ∈ r, ∀ q, ops[p]? = some q → q.dst ≠ some t) ∧ (∀ d, o.dst = some d → ∀ p ∈ r, ∀ q, ops[p]? = some q → q.dst ≠ some d) ∧ (∀ p ∈ r, p ≠ i) := by
  simp only [hd, Bool.and_eq_true] at h
  obtain ⟨h1, h2⟩ := h
  cases ho : ops[i]? with
  | none => rw [ho] at h1; cases h1
  | some o =>
    rw [ho] at h1
    simp only [Bool.and_eq_true] at h1
    obtain ⟨⟨g1, g2⟩, g3⟩ := h1
    refine ⟨o, rfl, g1, fun t ht => ?_, fun d hd p hp q hq => ?_, fun p hp => ?_⟩
    · have := List.all_eq_true.1 g2 t ht
      simp only [Bool.and_eq_true, bne_iff_ne, List.all_eq_true] at this
      refine ⟨this.1, fun p hp q hq => ?_⟩
      have h5 := this.2 p hp
      rw [hq] at h5
      simpa using h5
    · rw [hd] at g3
      have h5 := List.all_eq_true.1 g3 p hp
      rw [hq] at h5
      simpa using h5
    · have := List.all_eq_true.1 h2 p hp
      simpa using this

/-- what is known between two operations -/
structure St (P : Program) (ops : Array Oper) (Q : Exit → Act → World → Prop) (md : Region.Mode) (post : Plan) (pre : List Nat) (A : Act) (B J : World → Prop) : Prop where
  sub : ∀ w, J w → B w
  op : ∀ i ∈ pre, ∀ o, ops[i]? = some o → (match o.op with | .select .. => false | .defer _ => false | _ => true) = true
  fact : ∀ i ∈ pre, ∀ o, ops[i]? = some o → ∀ w, B w → wpList P ops (fun e a' w' => e = .normal ∧ a' = A ∧ w' = w) [o] A w
  looks : ∀ i ∈ pre, ∀ o, ops[i]? = some o → ∀ t ∈ o.looksAt ops, ∀ p ∈ rest post, ∀ q, ops[p]? = some q → q.dst ≠ some t
  dst : ∀ i ∈ pre, ∀ o, ops[i]? = some o → ∀ d, o.dst = some d → ∀ p ∈ rest post, ∀ q, ops[p]? = some q → q.dst ≠ some d
  ok : okT md ops post = true
  seq : SeqT P ops Q (named ops post) A B J

/-- one more operation is seen through -/
theorem St.step {i : Nat} {post p : Plan} {pre : List Nat} {A : Act} {B J B' J' : World → Prop} {o : Oper} {v : Value} (h : St P ops Q md post pre A B J) (ho : ops[i]? = some o) (hi : i ∈ rest post) (hsub : ∀ k ∈ rest p, k ∈ rest post) (hok : okT md ops p = true)
    (hB : ∀ w, B' w → B w) (hJ : ∀ w, J' w → B' w) (hs : SeqT P ops Q (named ops p) (A.put o.dst v) B' J') : St P ops Q md p pre (A.put o.dst v) B' J' := by
  refine ⟨hJ, h.op, fun k hk ok hok w hw => ?_, fun k hk ok hok t ht p hp => h.looks k hk ok hok t ht p (hsub p hp), fun k hk ok hok d hd p hp => h.dst k hk ok hok d hd p (hsub p hp), hok, hs⟩
  have hl : ∀ t ∈ ok.looksAt ops, o.dst ≠ some t := fun t ht => h.looks k hk ok hok t ht i hi o ho
  refine shift (h.op k hk ok hok) (put_eval A hl v) (put_wanted A hl v) rfl (fun u hu => ?_) (h.fact k hk ok hok w (hB w hw))
  rw [put_comm A (d := o.dst) (e := ok.dst) (fun t ht he => h.dst k hk ok hok t he i hi o ho ht) u v, hu]
theorem St.still {i : Nat} {p : Plan} {pre : List Nat} {A : Act} {B J : World → Prop} {o : Oper} {v : Value} (h : St P ops Q md (.look i p) pre A B J) (ho : ops[i]? = some o)
    (hv : ∀ w, B w → wpList P ops (fun e a' w' => e = .normal ∧ a' = A.put o.dst v ∧ w' = w) [o] A w)
    (hs : SeqT P ops Q (named ops p) (A.put o.dst v) B J) : St P ops Q md p (i :: pre) (A.put o.dst v) B J := by
  have hz := h.ok
  simp only [okT, Bool.and_eq_true] at hz
  have h1 := h.step ho (by simp [rest]) (p := p) (fun k hk => by simp [rest, hk]) hz.2 (fun _ h => h) h.sub hs
  obtain ⟨o', ho', g1, g2, g3, g4⟩ := hd_at hz.1
  clear hz
  rw [ho] at ho'
  cases ho'
  refine ⟨h.sub, fun k hk ok hok => ?_, fun k hk ok hok w hw => ?_, fun k hk ok hok t ht p hp q hq => ?_, fun k hk ok hok d hd p hp q hq => ?_, h1.ok, h1.seq⟩
  · rcases List.mem_cons.1 hk with rfl | hk
    · rw [ho] at hok; cases hok; exact g1
    · exact h1.op k hk ok hok
  · rcases List.mem_cons.1 hk with rfl | hk
    · rw [ho] at hok; cases hok
      have hl : ∀ t ∈ o.looksAt ops, o.dst ≠ some t := fun t ht => (g2 t ht).1
      refine shift g1 (put_eval A hl v) (put_wanted A hl v) (put_defers _ _ _) (fun u hu => ?_) (hv w hw)
      rw [put_put, hu]
    · exact h1.fact k hk ok hok w hw
  · rcases List.mem_cons.1 hk with rfl | hk
    · rw [ho] at hok; cases hok; exact (g2 t ht).2 p hp q hq
    · exact h1.looks k hk ok hok t ht p hp q hq
  · rcases List.mem_cons.1 hk with rfl | hk
    · rw [ho] at hok; cases hok; exact g3 d hd p hp q hq
    · exact h1.dst k hk ok hok d hd p hp q hq
def makes : Plan → Bool
  | .look .. => false
  | _ => true
theorem advance {a : Act} {listed : Array Bool} {B J : World → Prop} : ∀ (post : Plan) (pre : List Nat) (A : Act), St P ops Q md post pre A B J → Agree ops A listed a → (∀ p ∈ rest post, listed.getD p true = false) →
    ∃ post' pre' A', St P ops Q md post' pre' A' B J ∧ Agree ops A' listed a ∧ (∀ p ∈ rest post', listed.getD p true = false) ∧ (∀ j, (j ∈ pre ∨ j ∈ rest post) → j ∈ pre' ∨ j ∈ rest post') ∧ makes post' = true
  | .nil, pre, A, h, ha, hu => ⟨.nil, pre, A, h, ha, hu, fun _ h => h, rfl⟩
  | .make i p, pre, A, h, ha, hu => ⟨.make i p, pre, A, h, ha, hu, fun _ h => h, rfl⟩
  | .fork i p j q, pre, A, h, ha, hu => ⟨.fork i p j q, pre, A, h, ha, hu, fun _ h => h, rfl⟩
  | .look i r, pre, A, h, ha, hu => by
    have hok := h.ok
    simp only [okT, Bool.and_eq_true] at hok
    obtain ⟨o, ho, g1, g2, g3, g4⟩ := hd_at hok.1
    have hs := h.seq
    simp only [named, ho, SeqT] at hs
    have hi := hu i (by simp [rest])
    have key : ∀ v, (∀ w, B w → wpList P ops (fun e a' w' => e = .normal ∧ a' = A.put o.dst v ∧ w' = w) [o] A w) → SeqT P ops Q (named ops r) (A.put o.dst v) B J →
        ∃ post' pre' A', St P ops Q md post' pre' A' B J ∧ Agree ops A' listed a ∧ (∀ p ∈ rest post', listed.getD p true = false) ∧ (∀ j, (j ∈ pre ∨ j ∈ rest (.look i r)) → j ∈ pre' ∨ j ∈ rest post') ∧ makes post' = true := by
      intro v hv hs2
      obtain ⟨post', pre', A', k1, k2, k3, k4, k5⟩ := advance r (i :: pre) _ (h.still ho hv hs2) (ha.more ho hi) (fun p hp => hu p (by simp [rest, hp]))
      refine ⟨post', pre', A', k1, k2, k3, fun j hj => k4 j ?_, k5⟩
      rcases hj with hj | hj
      · exact .inl (List.mem_cons_of_mem _ hj)
      · rcases List.mem_cons.1 hj with rfl | hj
        · exact .inl (by simp)
        · exact .inr hj
    by_cases hw : Region.wanted o (yielded ops A.tmps) = true
    · rw [if_pos hw] at hs
      obtain ⟨v, hv, hs2⟩ := hs
      exact key v hv hs2
    · rw [if_neg hw] at hs
      have hoff : ∀ w, B w → wpList P ops (fun e a' w' => e = .normal ∧ a' = A.put o.dst undef ∧ w' = w) [o] A w := fun w _ => by
        unfold wpList
        rw [if_neg hw]
        exact ⟨rfl, rfl, rfl⟩
      exact key undef hoff hs
/-- behind a plan's looks: which operation may come, and the plan that then goes on -/
theorem next {post : Plan} {A : Act} {B J : World → Prop} {pre : List Nat} (h : St P ops Q md post pre A B J) (hm : makes post = true) {listed : Array Bool} (hu : ∀ p ∈ rest post, listed.getD p true = false) {i : Nat} {o : Oper} (ho : ops[i]? = some o) (hi : i ∈ rest post)
    (hall : ∀ e ∈ o.after, Region.binds md e = true → listed.getD e.on true = true) :
    ∃ p, Owes P ops A o B J (SeqT P ops Q (named ops p)) ∧ okT md ops p = true ∧ (∀ k ∈ rest p, k ∈ rest post ∧ k ≠ i) ∧ (∀ k ∈ rest post, k ≠ i → k ∈ rest p) := by
  have hno : ∀ l : List Nat, (∀ k ∈ l, k ∈ rest post) → bound md ops i l = false := fun l hl => by
    cases hb : bound md ops i l with
    | false => rfl
    | true =>
      unfold bound at hb
      rw [ho] at hb
      obtain ⟨e, he, hbe⟩ := Array.any_eq_true'.1 hb
      simp only [Bool.and_eq_true, List.contains_iff_mem] at hbe
      have h1 := hall e he hbe.1
      rw [hu e.on (hl e.on hbe.2)] at h1
      cases h1
  have hok := h.ok
  have hs := h.seq
  cases post with
  | nil => cases hi
  | look i p => cases hm
  | make c p =>
    simp only [okT, Bool.and_eq_true] at hok
    obtain ⟨⟨k1, k2⟩, k3⟩ := hok
    obtain ⟨oc, hoc, -, -, -, g4⟩ := hd_at k1
    have hci : i = c := by
      rcases List.mem_cons.1 hi with h | h
      · exact h
      · have := List.all_eq_true.1 k2 i h
        rw [hno (c :: rest p) (fun k hk => hk)] at this
        cases this
    subst hci
    rw [ho] at hoc
    cases hoc
    simp only [named, ho, SeqT] at hs
    exact ⟨p, hs, k3, fun k hk => ⟨List.mem_cons_of_mem _ hk, g4 k hk⟩, fun k hk hne => (List.mem_cons.1 hk).resolve_left hne⟩
  | fork c p d q =>
    simp only [okT, Bool.and_eq_true] at hok
    obtain ⟨⟨⟨⟨⟨⟨⟨⟨k1, k2⟩, k3⟩, k4⟩, k5⟩, k6⟩, k7⟩, k8⟩, k9⟩ := hok
    obtain ⟨oc, hoc, -, -, -, g4⟩ := hd_at k1
    obtain ⟨od, hod, -, -, -, g5⟩ := hd_at k2
    simp only [named, hoc, hod, SeqT] at hs
    rw [List.contains_iff_mem] at k3 k4
    have m1 : ∀ k ∈ rest p, k = d ∨ k ∈ rest q := fun k hk => by
      have := List.all_eq_true.1 k5 k hk
      simpa [List.contains_iff_mem] using this
    have m2 : ∀ k ∈ rest q, k = c ∨ k ∈ rest p := fun k hk => by
      have := List.all_eq_true.1 k6 k hk
      simpa [List.contains_iff_mem] using this
    have hcd : i = c ∨ i = d := by
      rcases List.mem_cons.1 hi with h | h
      · exact .inl h
      · have := List.all_eq_true.1 k7 i h
        rw [hno (c :: rest p) (fun k hk => hk)] at this
        simp only [Bool.or_false, beq_iff_eq] at this
        exact .inr this
    rcases hcd with rfl | rfl
    · rw [ho] at hoc
      cases hoc
      exact ⟨p, hs.1, k8, fun k hk => ⟨List.mem_cons_of_mem _ hk, g4 k hk⟩, fun k hk hne => (List.mem_cons.1 hk).resolve_left hne⟩
    · rw [ho] at hod
      cases hod
      refine ⟨q, hs.2, k9, fun k hk => ⟨?_, g5 k hk⟩, fun k hk hne => ?_⟩
      · rcases m2 k hk with rfl | h
        · simp [rest]
        · exact List.mem_cons_of_mem _ h
      · rcases List.mem_cons.1 hk with rfl | h
        · exact k4
        · exact (m1 k h).resolve_left hne
theorem run_made (hmd : md = .any) (hf : fine md ops = true) : ∀ (m : Nat) (left : List Nat) (listed : Array Bool) (a A : Act) (w : World) (B J : World → Prop) (post : Plan) (pre : List Nat), left.length = m → listed.size = ops.size → left.Nodup → (∀ j, j ∈ left ↔ listed.getD j true = false) →
    (∀ j, listed.getD j true = false → j ∈ pre ∨ j ∈ rest post) → (∀ p ∈ rest post, listed.getD p true = false) → (∀ k q, ops[k]? = some q → listed.getD k true = true → ∀ e ∈ q.after, Region.binds md e = true → listed.getD e.on true = true) → Agree ops A listed a → J w → St P ops Q md post pre A B J → wpAny P md ops Q m listed a w := by
  intro m
  induction m with
  | zero =>
    intro left listed a A w B J post pre hm hsz hnd hl hc hu hcl ha hJ hS
    have hn : left = [] := List.length_eq_zero_iff.1 hm
    subst hn
    obtain ⟨post', pre', A', k1, k2, k3, k4, k5⟩ := advance post pre A hS ha hu
    have hp : post' = .nil := by
      cases post' with
      | nil => rfl
      | look i p => cases k5
      | make i p => have := (hl i).2 (k3 i (by simp [rest])); cases this
      | fork i p j q => have := (hl i).2 (k3 i (by simp [rest])); cases this
    subst hp
    have ht : a = A' := by
      have ht : a.tmps = A'.tmps := by
        refine Array.ext k2.size fun t h1 h2 => ?_
        have := k2.at' t fun j o _ _ => by
          have := (hl j).2
          cases hx : listed.getD j true with
          | true => rfl
          | false => cases this hx
        simpa [h1, h2] using this
      have hd := k2.defers
      cases a; cases A'
      simp only at ht hd
      rw [ht, hd]
    subst ht
    refine ⟨?_, k1.seq w hJ⟩
    cases hr : Region.ready md ops listed with
    | nil => rfl
    | cons i rs =>
      have : i ∈ Region.ready md ops listed := by rw [hr]; simp
      have := (hl i).2 (mem_ready.1 this).1
      cases this
  | succ m ih =>
    intro left listed a A w B J post pre hm hsz hnd hl hc hu hcl ha hJ hS
    refine ⟨fun hr => ?_, fun i hi => ?_⟩
    · rw [ready_some hf left listed hsz hl hr] at hm; simp at hm
    obtain ⟨post', pre', A', k1, k2, k3, k4, k5⟩ := advance post pre A hS ha hu
    obtain ⟨hun, o, ho, hall⟩ := mem_ready.1 hi
    obtain ⟨f1, f2, f3, f4⟩ := fine_at hf ho
    have his : i < ops.size := (Array.getElem?_eq_some_iff.1 ho).1
    have hallD : ∀ e ∈ o.after, Region.binds md e = true → listed.getD e.on true = true := fun e he hb => by
      have h1 := hall e he hb
      rcases Nat.lt_or_ge e.on listed.size with hes | hes
      · simp [hes] at h1 ⊢
        exact h1
      · simp [show ¬ e.on < listed.size by omega]
    have hlook : ∀ t ∈ o.looksAt ops, ∀ j p, ops[j]? = some p → p.dst = some t → listed.getD j true = true := by
      intro t ht j p hj hp
      obtain ⟨e, he, hb, rfl⟩ := f4 t ht j p hj hp
      exact hallD e he hb
    have heval := k2.eval hlook
    have hwant := k2.wanted hlook
    have hmem : i ∈ left := (hl i).2 hun
    have hnext : ∀ (A1 : Act) (B1 J1 : World → Prop) (post1 : Plan) (pre1 : List Nat) (v : Value) (w' : World), A1.put o.dst v = A1 → Agree ops A1 listed a → J1 w' → St P ops Q md post1 pre1 A1 B1 J1 →
        (∀ j, listed.getD j true = false → j ≠ i → j ∈ pre1 ∨ j ∈ rest post1) → (∀ p ∈ rest post1, listed.getD p true = false ∧ p ≠ i) → wpAny P md ops Q m (listed.setIfInBounds i true) (a.put o.dst v) w' := by
      intro A1 B1 J1 post1 pre1 v w' hv hag hJ1 hS1 hc1 hu1
      refine ih (left.erase i) _ _ A1 w' B1 J1 post1 pre1 (by rw [List.length_erase_of_mem hmem, hm]; rfl) (by simpa using hsz) (hnd.erase i) (fun j => ?_) (fun j hj => ?_) (fun p hp => ?_) (fun k q hq hk e he hb => ?_) (hag.put ho hv) hJ1 hS1
      · rw [hnd.mem_erase_iff, hl j]
        by_cases e : i = j
        · subst e
          simp [show i < listed.size by omega]
        · rw [getD_set_ne true e]
          exact ⟨fun h => h.2, fun h => ⟨fun h' => e h'.symm, h⟩⟩
      · by_cases e : i = j
        · subst e
          simp [show i < listed.size by omega] at hj
        · rw [getD_set_ne true e] at hj
          exact hc1 j hj (fun h => e h.symm)
      · rw [getD_set_ne true (fun e => (hu1 p hp).2 e.symm)]
        exact (hu1 p hp).1
      · have hold : listed.getD e.on true = true := by
          by_cases ek : i = k
          · subst ek
            rw [ho] at hq
            cases hq
            exact hallD e he hb
          · rw [getD_set_ne true ek] at hk
            exact hcl k q hq hk e he hb
        by_cases ee : i = e.on
        · rw [← ee]
          simp [show i < listed.size by omega]
        · rw [getD_set_ne true ee]
          exact hold
    have hcase : i ∈ pre' ∨ i ∈ rest post' := k4 i (hc i hun)
    have hkeep : ∀ v w', A'.put o.dst v = A' → w' = w → i ∉ rest post' → wpAny P md ops Q m (listed.setIfInBounds i true) (a.put o.dst v) w' := fun v w' hv hw hn =>
      hnext A' B J post' pre' v w' hv k2 (hw ▸ hJ) k1 (fun j hj hne => k4 j (hc j hj)) (fun p hp => ⟨k3 p hp, fun e => hn (e ▸ hp)⟩)
    by_cases hpost : i ∈ rest post'
    · obtain ⟨p, ⟨hwc, howe⟩, hokp, hsub, hsup⟩ := next k1 k5 k3 ho hpost hallD
      have h := howe w hJ
      have hmake : ∀ u w', (∃ v B' J', A'.put o.dst u = A'.put o.dst v ∧ J' w' ∧ SeqT P ops Q (named ops p) (A'.put o.dst v) B' J' ∧ (∀ w, J' w → B' w) ∧ (endsAll2 ops o = true ∨ ∀ w, B' w → B w)) → wpAny P md ops Q m (listed.setIfInBounds i true) (a.put o.dst u) w' := by
        rintro u w' ⟨v, B', J', h1, h2, h3, h4, h5⟩
        rw [← h1] at h3
        rcases h5 with h5 | h5
        · have hend := endsAll2_at (listed := listed) h5 hsz his hun (fun e he hb => hallD e he (by rw [hmd]; exact hb)) (fun k q hq hk e he hb => hcl k q hq hk e he (by rw [hmd]; exact hb))
          exact hnext (A'.put o.dst u) B' J' p [] u w' (put_put _ _ _ _) (k2.more ho (k3 i hpost)) h2 ⟨h4, fun k hk => (by cases hk), fun k hk => (by cases hk), fun k hk => (by cases hk), fun k hk => (by cases hk), hokp, h3⟩ (fun j hj hne => (hne (hend j hj)).elim) (fun q hq => ⟨k3 q (hsub q hq).1, (hsub q hq).2⟩)
        refine hnext (A'.put o.dst u) B' J' p pre' u w' (put_put _ _ _ _) (k2.more ho (k3 i hpost)) h2 (k1.step ho hpost (fun k hk => (hsub k hk).1) hokp h5 h4 h3) (fun j hj hne => ?_) (fun q hq => ⟨k3 q (hsub q hq).1, (hsub q hq).2⟩)
        rcases k4 j (hc j hj) with h | h
        · exact .inl h
        · exact .inr (hsup j h hne)
      unfold wpOp
      simp only [ho]
      unfold wpList at h
      rw [hwant]
      simp only [hwc, if_true] at h ⊢
      rcases h with h | ⟨_, _, _, h, _⟩
      case inr => cases h
      refine .inl ?_
      unfold Oper.wp at h ⊢
      rw [execOp_congr o f1 heval]
      generalize (execOp A'.eval o).run P w = x at *
      cases x with
      | ok x w' =>
        cases x <;> simp only [Oper.upon] at h ⊢
        case value v => exact hmake v w' h.2
        case skip => exact hmake _ w' h.2
        case defer d =>
          obtain ⟨v, B', J', h1, _⟩ := h.2
          have := congrArg (fun b : Act => b.defers.length) h1
          simp only [put_defers] at this
          simp at this
        case enter f args =>
          refine Calls.mono h fun e w'' he => ?_
          cases e with
          | returned v => exact hmake v w'' he.2
          | panicked c => cases he.1
          | outgrown => obtain ⟨_, _, h, _⟩ := he; cases h
        case row row args => exact Rows.mono h fun v w'' he => hmake v w'' he.2
      | halt x w' =>
        cases x <;> simp only [Oper.upon] at h ⊢
        case panic u => cases h.1
    · have hpre : i ∈ pre' := hcase.resolve_right hpost
      have h := k1.fact i hpre o ho w (k1.sub w hJ)
      unfold wpOp
      simp only [ho]
      unfold wpList at h
      rw [hwant]
      split
      · rename_i hw
        simp only [hw, if_true] at h
        rcases h with h | ⟨_, _, _, h, _⟩
        case inr => cases h
        refine .inl ?_
        unfold Oper.wp at h ⊢
        rw [execOp_congr o f1 heval]
        generalize (execOp A'.eval o).run P w = r at *
        cases r with
        | ok x w' =>
          cases x <;> simp only [Oper.upon] at h ⊢
          case value v => exact hkeep v w' h.2.1 h.2.2 hpost
          case skip => exact hkeep _ w' h.2.1 h.2.2 hpost
          case defer d =>
            have := congrArg List.length (put_self h.2.1).1
            simp at this
          case enter f args =>
            refine Calls.mono h fun e w'' he => ?_
            cases e with
            | returned v => exact hkeep v w'' he.2.1 he.2.2 hpost
            | panicked c => cases he.1
            | outgrown => obtain ⟨_, _, h, _⟩ := he; cases h
          case row row args => exact Rows.mono h fun v w'' he => hkeep v w'' he.2.1 he.2.2 hpost
        | halt x w' =>
          cases x <;> simp only [Oper.upon] at h ⊢
          case panic u => cases h.1
      · rename_i hw
        simp only [hw] at h
        exact hkeep _ w h.2.1 rfl hpost

/-- the walk, behind a name that nothing unfolds -/
structure WalkT (P : Program) (ops : Array Oper) (Q : Exit → Act → World → Prop) (l : PlanO) (a : Act) (B J : World → Prop) : Prop where
  go : SeqT P ops Q l a B J
theorem WalkT.nil {a : Act} {B J : World → Prop} (h : ∀ w, J w → Q .normal a w) : WalkT P ops Q .nil a B J := ⟨h⟩
theorem WalkT.on {a : Act} {B J : World → Prop} {o : Oper} {r : PlanO} (hw : asks ops.toList o a.tmps.toList = true) {v : Value}
    (h1 : ∀ w, B w → wpList P ops (Lets (a.put o.dst v) w) [o] a w) (h : WalkT P ops Q r (a.put o.dst v) B J) : WalkT P ops Q (.look o r) a B J := by
  have hw' : Region.wanted o (yielded ops a.tmps) = true := (asks_eq _ _ _).trans hw
  refine ⟨?_⟩
  simp only [SeqT, hw', if_true]
  exact ⟨v, fun w hB => Lets.eq ▸ h1 w hB, h.go⟩
theorem WalkT.off {a : Act} {B J : World → Prop} {o : Oper} {r : PlanO} (hw : asks ops.toList o a.tmps.toList = false) (h : WalkT P ops Q r (a.put o.dst undef) B J) : WalkT P ops Q (.look o r) a B J := by
  have hw' : Region.wanted o (yielded ops a.tmps) = false := (asks_eq _ _ _).trans hw
  refine ⟨?_⟩
  simp only [SeqT, hw']
  exact h.go
structure MadeT (P : Program) (ops : Array Oper) (Q : Exit → Act → World → Prop) (r : PlanO) (a : Act) (o : Oper) (B : World → Prop) (e : Exit) (a' : Act) (w' : World) : Prop where
  e : e = .normal
  on : ∃ v B' J', a' = a.put o.dst v ∧ J' w' ∧ (∀ w, J' w → B' w) ∧ (endsAll2 ops o = true ∨ ∀ w, B' w → B w) ∧ WalkT P ops Q r (a.put o.dst v) B' J'
theorem owes {a : Act} {B J : World → Prop} {o : Oper} {r : PlanO} (hw : asks ops.toList o a.tmps.toList = true) (h1 : ∀ w, J w → wpList P ops (MadeT P ops Q r a o B) [o] a w) : Owes P ops a o B J (SeqT P ops Q r) := by
  have hw' : Region.wanted o (yielded ops a.tmps) = true := (asks_eq _ _ _).trans hw
  have he : MadeT P ops Q r a o B = fun e a' w' => e = .normal ∧ ∃ v B' J', a' = a.put o.dst v ∧ J' w' ∧ SeqT P ops Q r (a.put o.dst v) B' J' ∧ (∀ w, J' w → B' w) ∧ (endsAll2 ops o = true ∨ ∀ w, B' w → B w) := by
    funext e a' w'
    exact propext ⟨fun h => ⟨h.e, let ⟨v, B', J', h1, h2, h3, h4, h5⟩ := h.on; ⟨v, B', J', h1, h2, h5.go, h3, h4⟩⟩, fun h => ⟨h.1, let ⟨v, B', J', h1, h2, h3, h4, h5⟩ := h.2; ⟨v, B', J', h1, h2, h4, h5, ⟨h3⟩⟩⟩⟩
  exact ⟨hw', fun w hJ => he ▸ h1 w hJ⟩
theorem WalkT.make {a : Act} {B J : World → Prop} {o : Oper} {r : PlanO} (hw : asks ops.toList o a.tmps.toList = true) (h1 : ∀ w, J w → wpList P ops (MadeT P ops Q r a o B) [o] a w) : WalkT P ops Q (.make o r) a B J := ⟨owes hw h1⟩
theorem WalkT.fork {a : Act} {B J : World → Prop} {o o' : Oper} {r r' : PlanO} (hw : asks ops.toList o a.tmps.toList = true) (hw' : asks ops.toList o' a.tmps.toList = true) (h1 : ∀ w, J w → wpList P ops (MadeT P ops Q r a o B) [o] a w) (h2 : ∀ w, J w → wpList P ops (MadeT P ops Q r' a o' B) [o'] a w) :
    WalkT P ops Q (.fork o r o' r') a B J := ⟨owes hw h1, owes hw' h2⟩

theorem okT_lt : ∀ {p : Plan}, okT md ops p = true → ∀ k ∈ rest p, k < ops.size
  | .nil, _, k, hk => by cases hk
  | .look i p, h, k, hk => by
    simp only [okT, Bool.and_eq_true] at h
    rcases List.mem_cons.1 hk with rfl | hk
    · obtain ⟨o, ho, -⟩ := hd_at h.1
      exact (Array.getElem?_eq_some_iff.1 ho).1
    · exact okT_lt h.2 k hk
  | .make i p, h, k, hk => by
    simp only [okT, Bool.and_eq_true] at h
    rcases List.mem_cons.1 hk with rfl | hk
    · obtain ⟨o, ho, -⟩ := hd_at h.1.1
      exact (Array.getElem?_eq_some_iff.1 ho).1
    · exact okT_lt h.2 k hk
  | .fork i p j q, h, k, hk => by
    simp only [okT, Bool.and_eq_true] at h
    rcases List.mem_cons.1 hk with rfl | hk
    · obtain ⟨o, ho, -⟩ := hd_at h.1.1.1.1.1.1.1.1
      exact (Array.getElem?_eq_some_iff.1 ho).1
    · exact okT_lt h.1.2 k hk
theorem regionT {id : Nat} {a : Act} {w : World} (plan : Plan) (B : World → Prop) (hm : P.follows .mixedOrders = true) (hf : fine .any ops = true) (hok : okT .any ops plan = true) (hwh : whole ops plan = true) (hB : B w.drew)
    {l : PlanO} (hl : named ops plan = l) (hs : WalkT P ops Q l a B (fun W => W = w.drew)) : (Code.region id ops true).wp P Q a w := by
  subst hl
  refine wp_region_any hm ?_
  have h := run_made (md := .any) (P := P) (Q := Q) rfl hf ops.size (List.range ops.size) (Array.replicate ops.size false) a a w.drew B (fun W => W = w.drew) plan [] (by simp) (by simp) List.nodup_range (fun j => ?_) (fun j hj => ?_) (fun p hp => ?_) (fun k q hq hk => ?_) ⟨rfl, rfl, fun _ _ => rfl⟩ rfl
    ⟨fun W h => h ▸ hB, (fun i hi => nomatch hi), (fun i hi => nomatch hi), (fun i hi => nomatch hi), (fun i hi => nomatch hi), hok, hs.go⟩
  · exact h
  · rw [List.mem_range]
    by_cases h : j < ops.size
    · simp [h]
    · simp [h]
  · right
    have hjs : j < ops.size := by
      rcases Nat.lt_or_ge j ops.size with h | h
      · exact h
      · simp [h] at hj
    have := List.all_eq_true.1 hwh j (List.mem_range.2 hjs)
    simpa [List.contains_iff_mem] using this
  · simp [okT_lt hok p hp]
  · have := (Array.getElem?_eq_some_iff.1 hq).1
    simp [this] at hk
end
end Pt
end Go.Proofs.YtdbkkldgobkjcaaGreat

namespace Go.Proofs.YtdbkkldgobkjcaaGreat
open Go.RowKit Go.Maps
namespace Mv
open It

set_option maxRecDepth 100000 in
set_option maxHeartbeats 4000000 in
theorem refforget_calls (k : Int) (xb base : Nat) (es : List (Way × Value)) (w : World) (h : DocAt w xb base es) (hs : Sorted (es.map (·.1))) (hB : base ≤ w.heap.size) (hxb : base ≤ xb) :
    Calls Tryz.prog 31 #[.pointer (some ⟨xb, 0, none⟩), .int .i64 k] w fun e w' => ∃ es', e = .returned (.int .i64 (forgetOf (es.map (·.1)) k).2) ∧
      es'.map (·.1) = (forgetOf (es.map (·.1)) k).1 ∧ DocAt w' xb base es' ∧ w.grownBy w' (some xb) := by
  have cF := Lib.hid (find_calls k xb base es w h)
  have H := Lib.hid h
  obtain ⟨i0, hi0, hz0⟩ := Option.map_eq_some_iff.1 way_info
  simp only [Prod.mk.injEq] at hz0
  obtain ⟨hz0, hz1, hz2⟩ := hz0
  rcases @idx_find (es.map (·.1)) k with ⟨h1, h2⟩ | ⟨i, hi, h1, h2, hk⟩
  · have hC : forgetOf (es.map (·.1)) k = (es.map (·.1), 4) := by unfold forgetOf; rw [h2]
    rw [hC]
    rw [h1] at cF
    clear hC h h1 h2
    go_enter Tryz.func31, Tryz.ntmps31
    go_wp2_with (go_at_call 61; refine cF.out.mono ?_; rintro e W ⟨rfl, rfl⟩)
    go_ret
    exact ⟨es, rfl, rfl, H.out, only_of_below (Below.refl _ _) _⟩
  · rw [h1] at cF
    have hi2 : i < es.length := by simpa using hi
    have hds : (es.map (·.1))[i] = es[i].1 := by simp
    rw [hds] at h2 hk
    obtain ⟨v, hx, hv⟩ := h.ob
    have hlen := h.len
    have hS := Sl.of_own hv
    have hone := docCells_one h.nest
    obtain ⟨A, c, rfl, hc1, hc2, -⟩ := hS.at_
    unfold maxLen at hc2
    obtain ⟨bo, o, rfl, -, hbo, c0, c1, c2, c3, c4⟩ := docAt_cell hS hi2
    have g0 := hx.cell (j := 0) (v := .slice (some ⟨bo, o, none⟩) es.length c) rfl
    have hgx := hx.frozen 0
    have hdi : decide ((i : Int) < 0) = false := by simp
    have hdl : decide ((i : Int) < (es.length : Int)) = true := by simp; omega
    cases hcm : es[i].1.came with
    | false =>
      have hC : forgetOf (es.map (·.1)) k = (es.map (·.1), 80) := by unfold forgetOf; rw [h2]; show (if es[i].1.came then _ else _) = _; rw [hcm]; rfl
      rw [hC]
      rw [hcm] at c4
      clear hC h1 h2 h hv hS hone hds
      go_enter Tryz.func31, Tryz.ntmps31
      go_wp2_with (go_at_call 61; refine cF.out.mono ?_; rintro e W ⟨rfl, rfl⟩)
      go_ret
      exact ⟨es, rfl, rfl, H.out, only_of_below (Below.refl _ _) _⟩
    | true =>
      have hC : forgetOf (es.map (·.1)) k = ((es.map (·.1)).take i ++ (es.map (·.1)).drop (i + 1), 0) := by
        unfold forgetOf; rw [h2]; show (if es[i].1.came then _ else _) = _; rw [if_pos hcm]
        have := del_erase hs i hi
        rw [hds, hk] at this
        rw [this]
      rw [hC]
      rw [hcm] at c4
      have HS := Lib.hid hS
      have HONE := Lib.hid hone
      clear hC h1 h2 h hS hone hds hv
      go_enter Tryz.func31, Tryz.ntmps31
      go_wp2_with (go_at_call 61; refine cF.out.mono ?_; rintro e W ⟨rfl, rfl⟩)
      have g0d : w.drew.cell? ⟨xb, 0, none⟩ = some (.slice (some ⟨bo, o, none⟩) es.length c) := g0
      clear c0 c1 c2 c3 c4 hs hk hcm hi cF g0 hgx
      refine Pt.regionT (.look 0 (.look 2 (.look 3 (.look 4 (.look 5 (.look 6 (.look 7 (.look 9 (.look 10 (.look 11 (.look 12 (.look 13 (.look 14 (.look 15 (.look 17 (.look 18 (.make 1 (.make 8 (.make 16 (.make 19 .nil)))))))))))))))))))) (fun W => W.cell? ⟨xb, 0, none⟩ = some (.slice (some ⟨bo, o, none⟩) es.length c)) hmx (by kernel_rfl) (by kernel_rfl) (by kernel_rfl) g0d rfl ?_
      simp only [Pt.named, List.getElem?_toArray, List.getElem?_cons_succ, List.getElem?_cons_zero, Option.map_some]
      have l1 : (0 : Int) ≤ (i : Int) := by omega
      have l2 : (i : Int) ≤ (c : Int) := by omega
      iterate 13 (apply Pt.WalkT.on (by rfl)
                  · rintro W gW
                    go_wp2_with fail
                    refine ⟨rfl, ?_, rfl⟩
                    try simp only [Act.put, List.setIfInBounds_toArray, List.set_cons_succ, List.set_cons_zero]
                    rfl
                  simp only [Act.put, List.setIfInBounds_toArray, List.set_cons_succ, List.set_cons_zero])
      have l3 : (i : Int) + 1 ≤ (es.length : Int) := by omega
      have l4 : (0 : Int) ≤ (i : Int) + 1 := by omega
      obtain ⟨A3, hA3⟩ : ∃ A3, (if c = i + 1 then some (⟨bo, o, none⟩ : Addr) else some ⟨bo, o + (i + 1) * 5, none⟩) = A3 := ⟨_, rfl⟩
      have hc4 : i + 1 ≤ c := by omega
      apply Pt.WalkT.on (v := .slice A3 (es.length - (i + 1)) (c - (i + 1))) (by rfl)
      · rintro W gW
        by_cases hce : c = i + 1
        · have hA4 : A3 = some ⟨bo, o, none⟩ := by rw [← hA3, if_pos hce]
          rw [hA4]
          clear hA3 hA4
          go_wp2_with fail
          refine ⟨rfl, ?_, rfl⟩
          simp only [Act.put, List.setIfInBounds_toArray, List.set_cons_succ, List.set_cons_zero, Nat.sub_self]
        · have hA4 : A3 = some ⟨bo, o + (i + 1) * 5, none⟩ := by rw [← hA3, if_neg hce]
          rw [hA4]
          clear hA3 hA4
          go_wp2_with fail
          refine ⟨rfl, ?_, rfl⟩
          simp only [Act.put, List.setIfInBounds_toArray, List.set_cons_succ, List.set_cons_zero]
      simp only [Act.put, List.setIfInBounds_toArray, List.set_cons_succ, List.set_cons_zero]
      iterate 02 (apply Pt.WalkT.on (by rfl)
                  · rintro W gW
                    go_wp2_with fail
                    refine ⟨rfl, ?_, rfl⟩
                    try simp only [Act.put, List.setIfInBounds_toArray, List.set_cons_succ, List.set_cons_zero]
                    rfl
                  simp only [Act.put, List.setIfInBounds_toArray, List.set_cons_succ, List.set_cons_zero])
      have hal0 : Below w.heap.size w w.drew := (Below.refl _ w).drew
      have hx0 : Ob w.drew xb 58 #[.slice (some ⟨bo, o, none⟩) es.length c] := hx
      have HSd := Lib.hid (fun W (hb : Below w.heap.size w W) => Sl.below HS.out hb)
      refine Pt.WalkT.make (by rfl) ?_
      rintro W rfl
      go_wp2_with fail
      have hal := hal0.alloc hal0.size (.cells #[] 108)
      have hown0 := World.ownsRow_lit (e := 108) (size := 5) (base := w.heap.size) w.drew #[] 0 (Nat.le_refl _) (Nat.zero_le _) rfl
      have hx1 := hx0.alloc (.cells #[] 108)
      refine ⟨rfl, .slice (some ⟨w.heap.size, 0, none⟩) 0 0, _, (fun W => W = w.drew.alloc (.cells #[] 108)), ?_, rfl, (fun W h => by rw [h]; exact hx1.cell (j := 0) rfl), (.inr (fun _ h => h)), ?_⟩
      · simp only [Act.put, List.setIfInBounds_toArray, List.set_cons_succ, List.set_cons_zero]
      simp only [Act.put, List.setIfInBounds_toArray, List.set_cons_succ, List.set_cons_zero]
      generalize w.drew.alloc (.cells #[] 108) = W1 at *
      refine Pt.WalkT.make (by rfl) ?_
      rintro W rfl
      refine wpList_append_sl _ rfl (.tmp 21) (.tmp 27) _ rfl w.heap.size 108 i0 _ 5 56 Tryz.underlying56 hi0 hz0 hz1 hz2 rfl (by omega) (.slice (some ⟨w.heap.size, 0, none⟩) 0 0) 0 [] rfl hown0 base w.heap.size _ i ((docCells es).take (i * 5)) rfl ((Sl.upTo (HSd.out _ hal) (by omega))) (fun y hy => HONE.out y (List.mem_of_mem_take hy)) (by unfold maxLen; omega) (by omega) hal.size ?_
      intro v1 w1 hv1 hg1 hat1
      have hxl := hx.lt
      have hB1 : Below w.heap.size w w1 := hal.grown hg1 hal.size (fun g hg => by cases hg; exact Nat.le_refl _)
      have hown1 : w1.ownsRow w.heap.size 108 5 v1 i ((docCells es).take (i * 5)) := by simpa using hv1
      have hx2 := hx1.kept hg1 (fun e => by cases e; exact absurd hxl (Nat.lt_irrefl _))
      clear hv1 hg1 hat1 hown0 hx1
      refine ⟨rfl, v1, _, (fun W => W = w1), rfl, rfl, (fun W h => by rw [h]; exact hx2.cell (j := 0) rfl), (.inr (fun _ h => h)), ?_⟩
      simp only [Act.put, List.setIfInBounds_toArray, List.set_cons_succ, List.set_cons_zero]
      refine Pt.WalkT.make (by rfl) ?_
      rintro W rfl
      refine wpList_append_sl _ rfl (.tmp 28) (.tmp 35) _ rfl w.heap.size 108 i0 _ 5 56 Tryz.underlying56 hi0 hz0 hz1 hz2 rfl (by omega) v1 i ((docCells es).take (i * 5)) rfl hown1 base w.heap.size _ (es.length - (i + 1)) ((docCells es).drop ((i + 1) * 5)) rfl (by rw [← hA3]; exact Sl.onFrom (HSd.out _ hB1) (by omega)) (fun y hy => HONE.out y (List.mem_of_mem_drop hy)) (by unfold maxLen; omega) (by omega) hB1.size ?_
      intro v2 w2 hv2 hg2 hat2
      have hB2 : Below w.heap.size w w2 := hB1.grown hg2 hB1.size (fun g hg => (hown1.lt g hg).1)
      have hx3 := hx2.kept hg2 (fun e => by have := (hown1.lt xb e.symm).1; omega)
      have hl2 : i + (es.length - (i + 1)) = (es.take i ++ es.drop (i + 1)).length := by simp; omega
      rw [← docCells_take, ← docCells_drop, ← docCells_append, hl2] at hv2
      obtain ⟨A5, c5, rfl, -⟩ := (Sl.of_own hv2).at_
      have HV2 := Lib.hid hv2
      clear hv2 hg2 hat2 hx2 hown1
      refine ⟨rfl, _, _, (fun W => W = w2), rfl, rfl, (fun W h => by rw [h]; exact hx3.cell (j := 0) rfl), (.inr (fun _ h => h)), ?_⟩
      simp only [Act.put, List.setIfInBounds_toArray, List.set_cons_succ, List.set_cons_zero]
      refine Pt.WalkT.make (by rfl) ?_
      rintro W rfl
      have g3 := hx3.cell (j := 0) (v := .slice (some ⟨bo, o, none⟩) es.length c) rfl
      have f3 := hx3.frozen 0
      generalize hn2 : (es.take i ++ es.drop (i + 1)).length = n2 at *
      have HN2 := Lib.hid hn2
      clear hn2 hl2
      go_wp2_with fail
      have hx4 := hx3.set 0 (.slice A5 n2 c5)
      have hg4 := grownBy_set W xb 0 (.slice A5 n2 c5)
      refine ⟨rfl, undef, (fun _ => True), (fun V => V = W.setCell ⟨xb, 0, none⟩ (.slice A5 n2 c5)), rfl, rfl, (fun _ _ => trivial), (.inl (by kernel_rfl)), Pt.WalkT.nil ?_⟩
      rintro V rfl
      simp only [Act.put]
      have hrow := ownsRow_far HV2.out hg4 hxl
      have hgw := (only_of_below hB2 (some xb)).trans hg4
      have hBb : Below base w (W.setCell ⟨xb, 0, none⟩ (.slice A5 n2 c5)) := (Below.refl base w).grown hgw hB (fun k e => by cases e; exact hxb)
      have hnest : ∀ p ∈ es.take i ++ es.drop (i + 1), ItemsAt (W.setCell ⟨xb, 0, none⟩ (.slice A5 n2 c5)) 0 base p.2 p.1.l := by
        intro p hp
        refine (H.out.nest p ?_).below hBb
        rcases List.mem_append.1 hp with hp | hp
        · exact List.mem_of_mem_take hp
        · exact List.mem_of_mem_drop hp
      clear g3 f3
      go_wp2
      go_ret
      refine ⟨es.take i ++ es.drop (i + 1), rfl, by simp, ⟨⟨_, hx4, ?_⟩, hnest, by rw [List.length_append, List.length_take, List.length_drop]; omega⟩, hgw⟩
      rw [HN2.out]
      exact ownsRow_wide hrow hB
end Mv
end Go.Proofs.YtdbkkldgobkjcaaGreat
