/-
  a whole object loaded by an operation that is bound to a test.
-/
import Derived.Test.YtlhpdalfnjhokaaObx
import Derived.Test.YtlhpdalfnjhokaaPure
namespace Go.Proofs.Ytlhpdalfnjhokaa
open Go.RowKit
section
variable {P : Program} {w : World} {ops : Array Oper} {rest : List Oper} {o : Oper} {a : Act} {Q : Exit → Act → World → Prop}
theorem wpList_load_obg (hw : Pu.asks ops.toList o a.tmps.toList = true) (ty : TypeId) (x : Operand) (hop : o.op = .load ty x) {g : Nat} {t : TypeId} {cells : Array Value} (hx : a.eval x = .pointer (some ⟨g, 0, none⟩)) (d : TypeDesc)
    (h : Ob w g t cells) (hu : P.underlying ty = some d) (hd : d.isRow = true) (hi : (P.info? ty).map (·.size) = some cells.size)
    (hK : wpList P ops Q rest (a.put o.dst (.agg cells)) w) : wpList P ops Q (o :: rest) a w := by
  have hrun := load_ob_run (P := P) h hu hd hi
  unfold wpList
  rw [if_pos ((Pu.asks_eq _ _ _).trans hw)]
  left
  unfold Oper.wp
  simp [execOp, hop, hx, hrun, Result.andThen]
  exact hK
end
end Go.Proofs.Ytlhpdalfnjhokaa
