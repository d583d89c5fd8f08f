/- The fixed calls of the law, run by the kernel. -/
import Derived.Test.YtjkklcpefepohaaGreatDoorTopE4
set_option linter.unusedVariables false
set_option linter.unusedSimpArgs false
namespace Go.Proofs.YtjkklcpefepohaaGreatDoor
open Go Go.Ev Go.Proofs
set_option maxRecDepth 100000
noncomputable def pre0 : List PRow := [⟨0, names, 184⟩]
noncomputable def trueRun (c : Option COut) : Bool := match c with
  | some ⟨.ret (.bool true), s⟩ => stayed s pre0
  | _ => false
theorem known_run : trueRun (call4 (.fn 10) [] ⟨layPre pre0 .leaf, 5⟩) = true := by kernel_rfl
end Go.Proofs.YtjkklcpefepohaaGreatDoor
