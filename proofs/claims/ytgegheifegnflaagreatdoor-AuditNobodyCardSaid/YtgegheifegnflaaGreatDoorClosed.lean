/- The closed facts of the row. -/
import Derived.Test.YtgegheifegnflaaGreatDoorRows
import Derived.JoinedCond
import Derived.KernelRfl
namespace Go.Proofs.YtgegheifegnflaaGreatDoor
set_option maxRecDepth 1000000
theorem closedFacts : joinedFacts Tryz.pinned.checked.prog 3 Tryz.f3 (OpenSpec.ofChange Rows.auditNobodySpec).bare Rows.auditNobodyRow = true := by kernel_rfl
end Go.Proofs.YtgegheifegnflaaGreatDoor
