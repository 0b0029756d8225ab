/- The certificates of the draws of the given program hold. -/
import Derived.Test.YtbjkfbcladkfcaaGreatDoorAmTab
set_option linter.unusedSimpArgs false
set_option linter.unusedVariables false
namespace Go.Proofs.YtbjkfbcladkfcaaGreatDoor
open Go Go.Am
set_option maxRecDepth 100000
theorem certs_ok : certsOk certs Tryz.prog.funcs.toList 0 = true := by kernel_rfl
end Go.Proofs.YtbjkfbcladkfcaaGreatDoor
