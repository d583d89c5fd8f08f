/- Sources as steps: what each comes to, computed by the kernel on an empty memory. -/
import Derived.Test.YtjkklcpefepohaaGreatDoorSumE
set_option linter.unusedVariables false
set_option linter.unusedSimpArgs false
namespace Go.Proofs.YtjkklcpefepohaaGreatDoor
open Go Go.Ev Go.Proofs
set_option maxRecDepth 100000
theorem grp4 : e48.Ok Tryz.prog call1 5 ∧ e49.Ok Tryz.prog call1 5 ∧ e50.Ok Tryz.prog call1 5 ∧ e51.Ok Tryz.prog call1 5 ∧ e52.Ok Tryz.prog call1 5 ∧ e53.Ok Tryz.prog call1 5 ∧ e54.Ok Tryz.prog call1 5 ∧ e55.Ok Tryz.prog call1 5 ∧ e56.Ok Tryz.prog call1 5 ∧ e57.Ok Tryz.prog call1 5 :=
  ⟨by unfold Sum0.Ok; kernel_rfl, by unfold Sum0.Ok; kernel_rfl, by unfold Sum0.Ok; kernel_rfl, by unfold Sum0.Ok; kernel_rfl, by unfold Sum0.Ok; kernel_rfl, by unfold Sum0.Ok; kernel_rfl, by unfold Sum0.Ok; kernel_rfl, by unfold Sum0.Ok; kernel_rfl, by unfold Sum0.Ok; kernel_rfl, by unfold Sum0.Ok; kernel_rfl⟩
end Go.Proofs.YtjkklcpefepohaaGreatDoor
