/- The closed facts of the row. -/
import Derived.Test.YtibgnnehhbbpeaaGreatDoorRows
import Derived.JoinedCond
import Derived.KernelRfl
namespace Go.Proofs.YtibgnnehhbbpeaaGreatDoor
set_option maxRecDepth 1000000
theorem closedFacts : joinedFacts Tryz.pinned.checked.prog 3 Tryz.f3 (OpenSpec.ofChange Rows.snapNobodySpec).bare Rows.snapNobodyRow = true := by kernel_rfl
end Go.Proofs.YtibgnnehhbbpeaaGreatDoor
