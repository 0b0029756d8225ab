/- Closed facts of a row, part by part. -/
import Derived.Test.YtbjkfbcladkfcaaGreatDoorAmPost
import Derived.JoinedCond
set_option linter.unusedSimpArgs false
set_option linter.unusedVariables false
namespace Go.Proofs.YtbjkfbcladkfcaaGreatDoor.fnProject
open Go.ChangeShapes Go.WideShapes Go.ChangeAt Go.RowKit
set_option maxRecDepth 100000
theorem j1 : (Rows.matchProjectUptoRow.inPlace == Tryz.pinned.checked.prog.inPlace 3) = true := by kernel_rfl
theorem j2 : (Rows.matchProjectUptoRow.unfollowed == Tryz.pinned.checked.prog.unfollowed 3) = true := by kernel_rfl
end Go.Proofs.YtbjkfbcladkfcaaGreatDoor.fnProject
