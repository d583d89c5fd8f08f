/- Sources as steps: what each comes to, computed by the kernel on an empty memory. -/
import Derived.Test.YtjkklcpefepohaaGreatDoorSumE
set_option linter.unusedVariables false
set_option linter.unusedSimpArgs false
namespace Go.Proofs.YtjkklcpefepohaaGreatDoor
open Go Go.Ev Go.Proofs
set_option maxRecDepth 100000
theorem grp5 : e58.Ok Tryz.prog call1 5 ∧ e59.Ok Tryz.prog call1 5 ∧ e60.Ok Tryz.prog call1 5 ∧ e61.Ok Tryz.prog call1 5 ∧ e62.Ok Tryz.prog call1 5 ∧ e63.Ok Tryz.prog call1 5 :=
  ⟨by unfold Sum0.Ok; kernel_rfl, by unfold Sum0.Ok; kernel_rfl, by unfold Sum0.Ok; kernel_rfl, by unfold Sum0.Ok; kernel_rfl, by unfold Sum0.Ok; kernel_rfl, by unfold Sum0.Ok; kernel_rfl⟩
end Go.Proofs.YtjkklcpefepohaaGreatDoor
