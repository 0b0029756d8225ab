/- Closed facts of a row, part by part. -/
import Derived.Test.YtbjkfbcladkfcaaGreatDoorAmJa3
import Derived.Test.YtbjkfbcladkfcaaGreatDoorAmJb3
set_option linter.unusedSimpArgs false
set_option linter.unusedVariables false
namespace Go.Proofs.YtbjkfbcladkfcaaGreatDoor.fnProject
open Go.ChangeShapes Go.WideShapes Go.ChangeAt Go.RowKit
set_option maxRecDepth 100000
theorem closed : joinedFacts Tryz.pinned.checked.prog 3 Tryz.f3 (Rows.OpenSpec.upto Rows.matchProjectSpec).bare Rows.matchProjectUptoRow = true := by
  unfold joinedFacts
  rw [j1, j2, j3, j4]
  kernel_rfl
end Go.Proofs.YtbjkfbcladkfcaaGreatDoor.fnProject
