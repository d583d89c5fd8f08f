/- Sources as steps: what each comes to, computed by the kernel on an empty memory. -/
import Derived.Test.YtjkklcpefepohaaGreatDoorSumE
set_option linter.unusedVariables false
set_option linter.unusedSimpArgs false
namespace Go.Proofs.YtjkklcpefepohaaGreatDoor
open Go Go.Ev Go.Proofs
set_option maxRecDepth 100000
theorem grp3 : e32.Ok Tryz.prog call1 5 ∧ e33.Ok Tryz.prog call1 5 ∧ e34.Ok Tryz.prog call1 5 ∧ e35.Ok Tryz.prog call1 5 ∧ e36.Ok Tryz.prog call1 5 ∧ e37.Ok Tryz.prog call1 5 ∧ e38.Ok Tryz.prog call1 5 ∧ e39.Ok Tryz.prog call1 5 ∧ e40.Ok Tryz.prog call1 5 ∧ e41.Ok Tryz.prog call1 5 ∧ e42.Ok Tryz.prog call1 5 ∧ e43.Ok Tryz.prog call1 5 ∧ e44.Ok Tryz.prog call1 5 ∧ e45.Ok Tryz.prog call1 5 ∧ e46.Ok Tryz.prog call1 5 ∧ e47.Ok Tryz.prog call1 5 :=
  ⟨by unfold Sum0.Ok; kernel_rfl, by unfold Sum0.Ok; kernel_rfl, by unfold Sum0.Ok; kernel_rfl, by unfold Sum0.Ok; kernel_rfl, by unfold Sum0.Ok; kernel_rfl, by unfold Sum0.Ok; kernel_rfl, by unfold Sum0.Ok; kernel_rfl, by unfold Sum0.Ok; kernel_rfl, by unfold Sum0.Ok; kernel_rfl, by unfold Sum0.Ok; kernel_rfl, by unfold Sum0.Ok; kernel_rfl, by unfold Sum0.Ok; kernel_rfl, by unfold Sum0.Ok; kernel_rfl, by unfold Sum0.Ok; kernel_rfl, by unfold Sum0.Ok; kernel_rfl, by unfold Sum0.Ok; kernel_rfl⟩
end Go.Proofs.YtjkklcpefepohaaGreatDoor
