/-
  part of the proof of TopNames.
-/
import Derived.Test.YtgcnhmjpfbbfcaaGreatTy43
set_option linter.unusedVariables false
set_option linter.unusedSimpArgs false
set_option maxRecDepth 100000
set_option maxHeartbeats 8000000
namespace Go.Proofs.YtgcnhmjpfbbfcaaGreat
namespace Tp
section
open Go.ChangeShapes Go.WideShapes Go.ChangeAt Go.RowKit
namespace Jf
theorem k12 : (Rows.topNamesRow.recurses == Tryz.pinned.checked.prog.recurses 3) = true := by kernel_rfl
theorem k13 : (Rows.topNamesRow.named == Tryz.pinned.checked.prog.varsNamed 3) = true := by kernel_rfl
end Jf
end
end Tp
end Go.Proofs.YtgcnhmjpfbbfcaaGreat
