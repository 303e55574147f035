/-
  sector: Dirty is a function.
-/
import Derived.Test.YteiniahikhiadaaSeP
namespace Go.Proofs.Yteiniahikhiadaa
open Go.RowKit Go.Maps
namespace Se
theorem dirty_calls (p : Value) (hp : p.oneCell' = true) (w : World) :
    Calls Try.prog 47 #[p] w fun e w' => e = .returned (.func (.func 72) #[] #[.pointer (some ⟨w.heap.size, 0, none⟩)]) ∧ w' = w.alloc (.cells #[p] 24) := by
  have hmf : ∀ (fn : Fn) (first cap : Array Value) (w : World), (Instr.makeFunc fn first cap).run Try.prog w = .ok (.func fn first cap) w := fun _ _ _ _ => rfl
  go_enter Try.func47, Try.ntmps47
  go_wp2
  go_ret
  exact ⟨rfl, rfl⟩
end Se
end Go.Proofs.Yteiniahikhiadaa
