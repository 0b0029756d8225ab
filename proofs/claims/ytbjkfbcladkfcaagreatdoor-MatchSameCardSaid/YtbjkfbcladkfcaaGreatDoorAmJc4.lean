/- Closed facts of a row, part by part. -/
import Derived.Test.YtbjkfbcladkfcaaGreatDoorAmJa4
import Derived.Test.YtbjkfbcladkfcaaGreatDoorAmJb4
set_option linter.unusedSimpArgs false
set_option linter.unusedVariables false
namespace Go.Proofs.YtbjkfbcladkfcaaGreatDoor.fnSame
open Go.ChangeShapes Go.WideShapes Go.ChangeAt Go.RowKit
set_option maxRecDepth 100000
theorem closed : joinedFacts Tryz.pinned.checked.prog 4 Tryz.f4 (OpenSpec.ofChange Rows.matchSameSpec).bare Rows.matchSameRow = true := by
  unfold joinedFacts
  rw [j1, j2, j3, j4]
  kernel_rfl
end Go.Proofs.YtbjkfbcladkfcaaGreatDoor.fnSame
