/-
  laws for whole objects that are loaded and stored, and for look-ups with ok, at the walk's lists of operations.
-/
import Derived.Test.YtlhpdalfnjhokaaObs
import Derived.Test.YtlhpdalfnjhokaaMaps
namespace Go.Proofs.Ytlhpdalfnjhokaa
open Go.RowKit Go.Maps
section
variable {P : Program} {w : World} {ops : Array Oper} {rest : List Oper} {o : Oper} {a : Act} {Q : Exit → Act → World → Prop} {F : Fence} {N : Nat}
theorem store_ob_run {g : Nat} {t ty : TypeId} {cs0 cells : Array Value} (h : Ob w g t cs0) (hs : cells.size = cs0.size) (hi : (P.info? ty).map (·.size) = some cells.size) (h1 : cells.all (·.oneCell') = true) :
    ∃ w', (Instr.storeAt ty (.pointer (some ⟨g, 0, none⟩)) (.agg cells)).run P w = .ok () w' ∧ Ob w' g t cells ∧ w.grownBy w' (some g) :=
  ⟨_, run_storeAt_mid w g 0 ty cells (h.there (by omega)) hi h1, by have := h.all cells.toList (by simpa using hs); simpa using this, grownBy_segs _ _ _⟩
theorem load_ob_run {g : Nat} {t ty : TypeId} {cells : Array Value} {d : TypeDesc} (h : Ob w g t cells) (hu : P.underlying ty = some d) (hd : d.isRow = true) (hi : (P.info? ty).map (·.size) = some cells.size) :
    (Instr.loadAt ty (.pointer (some ⟨g, 0, none⟩))).run P w = .ok (.agg cells) w := by
  have := run_loadAt_mid (P := P) w g 0 ty cells.toList d (h.range (fun j v hv => by simpa using hv)) hu hd (by simpa using hi)
  simpa using this
theorem wpListIn_store_ob (hgd : o.guard = none) (ty : TypeId) (x y : Operand) (hop : o.op = .store ty x y) {g : Nat} {t : TypeId} {cs0 cells : Array Value} (hx : a.eval x = .pointer (some ⟨g, 0, none⟩)) (hy : a.eval y = .agg cells)
    (h : Ob w g t cs0) (hs : cells.size = cs0.size) (hi : (P.info? ty).map (·.size) = some cells.size) (h1 : cells.all (·.oneCell') = true)
    (hK : ∀ w', Ob w' g t cells → w.grownBy w' (some g) → wpListIn F N P ops Q rest (a.put o.dst undef) w') : wpListIn F N P ops Q (o :: rest) a w := by
  refine wpListIn_plain hgd fun K' hK' => ?_
  obtain ⟨w', hrun, r1, r2⟩ := store_ob_run (P := P) h hs hi h1
  unfold Oper.wpIn
  refine ⟨by simp [Oper.about, hop], ?_⟩
  rw [Oper.semAt_eq _ _ _ (by rw [hop]; intro c hc; cases hc)]
  simp [execOp, hop, hx, hy, hrun, Result.andThen]
  exact hK' _ _ (hK w' r1 r2)
theorem wpList_store_ob (hgd : o.guard = none) (ty : TypeId) (x y : Operand) (hop : o.op = .store ty x y) {g : Nat} {t : TypeId} {cs0 cells : Array Value} (hx : a.eval x = .pointer (some ⟨g, 0, none⟩)) (hy : a.eval y = .agg cells)
    (h : Ob w g t cs0) (hs : cells.size = cs0.size) (hi : (P.info? ty).map (·.size) = some cells.size) (h1 : cells.all (·.oneCell') = true)
    (hK : ∀ w', Ob w' g t cells → w.grownBy w' (some g) → wpList P ops Q rest (a.put o.dst undef) w') : wpList P ops Q (o :: rest) a w := by
  refine wpList_plain hgd fun K' hK' => ?_
  obtain ⟨w', hrun, r1, r2⟩ := store_ob_run (P := P) h hs hi h1
  unfold Oper.wp
  simp [execOp, hop, hx, hy, hrun, Result.andThen]
  exact hK' _ _ (hK w' r1 r2)
theorem wpListIn_load_ob (hgd : o.guard = none) (ty : TypeId) (x : Operand) (hop : o.op = .load ty x) {g : Nat} {t : TypeId} {cells : Array Value} (hx : a.eval x = .pointer (some ⟨g, 0, none⟩)) (d : TypeDesc)
    (h : Ob w g t cells) (hu : P.underlying ty = some d) (hd : d.isRow = true) (hi : (P.info? ty).map (·.size) = some cells.size)
    (hK : wpListIn F N P ops Q rest (a.put o.dst (.agg cells)) w) : wpListIn F N P ops Q (o :: rest) a w := by
  refine wpListIn_plain hgd fun K' hK' => ?_
  have hrun := load_ob_run (P := P) h hu hd hi
  unfold Oper.wpIn
  refine ⟨by simp [Oper.about, hop], ?_⟩
  rw [Oper.semAt_eq _ _ _ (by rw [hop]; intro c hc; cases hc)]
  simp [execOp, hop, hx, hrun, Result.andThen]
  exact hK' _ _ hK
theorem wpList_load_ob (hgd : o.guard = none) (ty : TypeId) (x : Operand) (hop : o.op = .load ty x) {g : Nat} {t : TypeId} {cells : Array Value} (hx : a.eval x = .pointer (some ⟨g, 0, none⟩)) (d : TypeDesc)
    (h : Ob w g t cells) (hu : P.underlying ty = some d) (hd : d.isRow = true) (hi : (P.info? ty).map (·.size) = some cells.size)
    (hK : wpList P ops Q rest (a.put o.dst (.agg cells)) w) : wpList P ops Q (o :: rest) a w := by
  refine wpList_plain hgd fun K' hK' => ?_
  have hrun := load_ob_run (P := P) h hu hd hi
  unfold Oper.wp
  simp [execOp, hop, hx, hrun, Result.andThen]
  exact hK' _ _ hK
end
section
variable {κ : Type} [DecidableEq κ] {K : KeyK κ} {P : Program} {w : World} {b : Nat} {m : List (κ × Value)} {ops : Array Oper} {rest : List Oper} {o : Oper} {a : Act} {Q : Exit → Act → World → Prop} {F : Fence} {N : Nat}
theorem wpListIn_look_ok_g (hg : o.guard = none) (x y : Operand) (tm : TypeId) (hop : o.op = Op.lookup tm x y true) (t e : TypeId) (KK : Keyed P t) (ht : P.underlying tm = some (.map t e))
    (hm : a.eval x = .map (some b)) (h : GMap K w P t b m) {z : Value} (hz : (zeroValue e).run P w = .ok z w) (key : Value) (k : κ) (hx : a.eval y = key) (hkey : keyOf P t key = some (K.lit k))
    (r : Value) (bb : Bool) (hr : (mGet m k).getD z = r) (hb : (mGet m k).isSome = bb) (hK : wpListIn F N P ops Q rest (a.put o.dst (.tuple #[r, .bool bb])) w) :
    wpListIn F N P ops Q (o :: rest) a w := by
  refine wpListIn_plain hg fun K' hK' => ?_
  have hrun := h.look_ok KK ht hz hkey
  rw [hr, hb] at hrun
  unfold Oper.wpIn
  refine ⟨by simp [Oper.about, hop], ?_⟩
  rw [Oper.semAt_eq _ _ _ (by rw [hop]; intro c hc; cases hc)]
  simp [execOp, hop, hm, hx, hrun, Result.andThen]
  exact hK' _ _ hK
theorem wpList_look_ok_g (hg : o.guard = none) (x y : Operand) (tm : TypeId) (hop : o.op = Op.lookup tm x y true) (t e : TypeId) (KK : Keyed P t) (ht : P.underlying tm = some (.map t e))
    (hm : a.eval x = .map (some b)) (h : GMap K w P t b m) {z : Value} (hz : (zeroValue e).run P w = .ok z w) (key : Value) (k : κ) (hx : a.eval y = key) (hkey : keyOf P t key = some (K.lit k))
    (r : Value) (bb : Bool) (hr : (mGet m k).getD z = r) (hb : (mGet m k).isSome = bb) (hK : wpList P ops Q rest (a.put o.dst (.tuple #[r, .bool bb])) w) :
    wpList P ops Q (o :: rest) a w := by
  refine wpList_plain hg fun K' hK' => ?_
  have hrun := h.look_ok KK ht hz hkey
  rw [hr, hb] at hrun
  unfold Oper.wp
  simp [execOp, hop, hm, hx, hrun, Result.andThen]
  exact hK' _ _ hK
end
end Go.Proofs.Ytlhpdalfnjhokaa
