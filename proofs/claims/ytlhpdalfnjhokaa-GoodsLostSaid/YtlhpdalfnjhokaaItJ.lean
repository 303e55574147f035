/-
  items: the walk of sums.
-/
import Derived.Test.YtlhpdalfnjhokaaItI
import Derived.StringKeys
import Derived.Carry
namespace Go.Proofs.Ytlhpdalfnjhokaa
open Go.RowKit Go.Maps
namespace It
attribute [local go_sem] Oper.semAt_some

theorem keyedS : Keyed Try.prog 9 := string_keyed Try.underlying9
theorem zeroI (w : World) : (zeroValue 3).run Try.prog w = .ok (.int .i64 0) w := by kernel_rfl
theorem key_str {s : ByteArray} (h : s.size ≤ maxLen) : keyOf Try.prog 9 (.string s) = some (strK.lit s.data.toList) := WideMaps.keyOf_string_mk Try.underlying9 h

end It
end Go.Proofs.Ytlhpdalfnjhokaa
