/- The certificates of the draws of the given program hold. -/
import Derived.Test.YtlkjleajcgifaaaGreatDoorAmTab
namespace Go.Proofs.YtlkjleajcgifaaaGreatDoor
open Go Go.Am
set_option maxRecDepth 100000
theorem certs_ok : certsOk certs Tryz.prog.funcs.toList 0 = true := by kernel_rfl
end Go.Proofs.YtlkjleajcgifaaaGreatDoor
