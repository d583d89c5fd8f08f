/- The card's own facts. -/
import Derived.Test.YtjkklcpefepohaaGreatDoorCards
import Derived.KernelRfl
import Derived.SevenTiedAt
set_option linter.unusedVariables false
set_option linter.unusedSimpArgs false
namespace Go.Proofs.YtjkklcpefepohaaGreatDoor
open Go Go.Proofs
set_option maxRecDepth 100000
theorem wfFact : Rows.reachNilRow.wfByText (OpenSpec.ofChange Rows.reachNilSpec) = true := by kernel_rfl
theorem mainFact : Tryz.pinned.checked.prog.mainIs = some (true, "1f8fb85ab559ca9b0a377e86bc64b8eafafe6de11f6961287c697541ff699791".toList) := by kernel_rfl
theorem looksFact : true = Tryz.pinned.checked.prog.looks [] := by kernel_rfl
theorem standFact : ([22, 24].all fun u => !Tryz.pinned.checked.prog.wantsStandIn u) = true := by kernel_rfl
end Go.Proofs.YtjkklcpefepohaaGreatDoor
