/- Sources as steps: what each comes to, computed by the kernel on an empty memory. -/
import Derived.Test.YtjkklcpefepohaaGreatDoorSumE
set_option linter.unusedVariables false
set_option linter.unusedSimpArgs false
namespace Go.Proofs.YtjkklcpefepohaaGreatDoor
open Go Go.Ev Go.Proofs
set_option maxRecDepth 100000
theorem grp0 : e0.Ok Tryz.prog call1 5 ∧ e1.Ok Tryz.prog call1 5 ∧ e2.Ok Tryz.prog call1 5 ∧ e3.Ok Tryz.prog call1 5 ∧ e4.Ok Tryz.prog call1 5 ∧ e5.Ok Tryz.prog call1 5 ∧ e6.Ok Tryz.prog call1 5 ∧ e7.Ok Tryz.prog call1 5 ∧ e8.Ok Tryz.prog call1 5 ∧ e9.Ok Tryz.prog call1 5 ∧ e10.Ok Tryz.prog call1 5 ∧ e11.Ok Tryz.prog call1 5 ∧ e12.Ok Tryz.prog call1 5 ∧ e13.Ok Tryz.prog call1 5 ∧ e14.Ok Tryz.prog call1 5 ∧ e15.Ok Tryz.prog call1 5 :=
  ⟨by unfold Sum0.Ok; kernel_rfl, by unfold Sum0.Ok; kernel_rfl, by unfold Sum0.Ok; kernel_rfl, by unfold Sum0.Ok; kernel_rfl, by unfold Sum0.Ok; kernel_rfl, by unfold Sum0.Ok; kernel_rfl, by unfold Sum0.Ok; kernel_rfl, by unfold Sum0.Ok; kernel_rfl, by unfold Sum0.Ok; kernel_rfl, by unfold Sum0.Ok; kernel_rfl, by unfold Sum0.Ok; kernel_rfl, by unfold Sum0.Ok; kernel_rfl, by unfold Sum0.Ok; kernel_rfl, by unfold Sum0.Ok; kernel_rfl, by unfold Sum0.Ok; kernel_rfl, by unfold Sum0.Ok; kernel_rfl⟩
end Go.Proofs.YtjkklcpefepohaaGreatDoor
