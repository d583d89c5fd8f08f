/- No function of the program starts a goroutine. -/
import Derived.Test.YtjkklcpefepohaaGreatDoorRows
import Derived.KernelRfl
import GoSem.ClaimGoes
set_option linter.unusedVariables false
set_option linter.unusedSimpArgs false
namespace Go.Proofs.YtjkklcpefepohaaGreatDoor
open Go Go.Proofs
set_option maxRecDepth 100000
theorem goes_none {P : Program} (noGo : P.funcs.toList.any Func.goes = false) (f : FuncId) : P.goes f = false := by
  have h : ∀ g : FuncId, (P.funcs[g]?).any Func.goes = false := by
    intro g
    cases hg : P.funcs[g]? with
    | none => rfl
    | some fn =>
      have hm : fn ∈ P.funcs.toList := Array.mem_toList_iff.2 (Array.mem_of_getElem? hg)
      have := List.any_eq_false.1 noGo fn hm
      simpa using this
  have h2 : P.funcs.any Func.goes = false := by
    rw [← Array.any_toList]; exact noGo
  unfold Program.goes
  rw [h2, Bool.and_false, Bool.or_false]
  simp only [h]
  generalize P.closure f = l
  first
    | exact List.any_eq_false.2 fun _ _ => by simp
    | simp
theorem goesBy_none {P : Program} (noGo : P.funcs.toList.any Func.goes = false) (c : OpenClaim) (hs : c.start = .entering) : c.goesBy P = false := by
  unfold OpenClaim.goesBy Program.goesAt Program.goesFrom
  rw [hs]
  cases P.funcNamed c.func with
  | none => rfl
  | some f => simp [goes_none noGo f]
theorem noGo : Tryz.pinned.checked.prog.funcs.toList.any Func.goes = false := by kernel_rfl
theorem goesFact : false = Rows.reachNilRow.goesBy Tryz.pinned.checked.prog := (goesBy_none noGo _ rfl).symm
end Go.Proofs.YtjkklcpefepohaaGreatDoor
