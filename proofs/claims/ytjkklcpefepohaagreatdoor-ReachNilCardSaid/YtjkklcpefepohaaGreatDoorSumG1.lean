/- Sources as steps: what each comes to, computed by the kernel on an empty memory. -/
import Derived.Test.YtjkklcpefepohaaGreatDoorSumE
set_option linter.unusedVariables false
set_option linter.unusedSimpArgs false
namespace Go.Proofs.YtjkklcpefepohaaGreatDoor
open Go Go.Ev Go.Proofs
set_option maxRecDepth 100000
theorem grp1 : e16.Ok Tryz.prog call1 5 ∧ e17.Ok Tryz.prog call1 5 ∧ e18.Ok Tryz.prog call1 5 ∧ e19.Ok Tryz.prog call1 5 ∧ e20.Ok Tryz.prog call1 5 ∧ e21.Ok Tryz.prog call1 5 ∧ e22.Ok Tryz.prog call1 5 ∧ e23.Ok Tryz.prog call1 5 ∧ e24.Ok Tryz.prog call1 5 ∧ e25.Ok Tryz.prog call1 5 :=
  ⟨by unfold Sum0.Ok; kernel_rfl, by unfold Sum0.Ok; kernel_rfl, by unfold Sum0.Ok; kernel_rfl, by unfold Sum0.Ok; kernel_rfl, by unfold Sum0.Ok; kernel_rfl, by unfold Sum0.Ok; kernel_rfl, by unfold Sum0.Ok; kernel_rfl, by unfold Sum0.Ok; kernel_rfl, by unfold Sum0.Ok; kernel_rfl, by unfold Sum0.Ok; kernel_rfl⟩
end Go.Proofs.YtjkklcpefepohaaGreatDoor
