/- The program's facts; the runs of the calls that only look at what is nil. -/
import Derived.Test.YtjkklcpefepohaaGreatDoorEv8
import Derived.Test.YtjkklcpefepohaaGreatDoorSumE
set_option linter.unusedVariables false
set_option linter.unusedSimpArgs false
namespace Go.Proofs.YtjkklcpefepohaaGreatDoor
open Go Go.Ev Go.Proofs Go.RowKit
set_option maxRecDepth 100000

theorem mixedF : Tryz.prog.follows .mixedOrders = true := by kernel_rfl
def noCountB (l : List Func) : Bool := l.all fun fn => !(fn.name == "runtime.NumGoroutine")
theorem noCount : NoCount Tryz.prog := by
  have h : noCountB Tryz.prog.funcs.toList = true := by kernel_rfl
  intro f fn hf
  have hm : fn ∈ Tryz.prog.funcs.toList := Array.mem_toList_iff.2 (Array.mem_of_getElem? hf)
  have := List.all_eq_true.1 h fn hm
  simpa using this
theorem xt132 : XtOk Tryz.prog 132 Tryz.f132 .same := ⟨Tryz.func132, by kernel_rfl, by kernel_rfl, by kernel_rfl, by kernel_rfl⟩
theorem xt341 : XtOk Tryz.prog 341 Tryz.f341 .count := ⟨Tryz.func341, by kernel_rfl, by kernel_rfl, by kernel_rfl, by kernel_rfl⟩
theorem xt312 : XtOk Tryz.prog 312 Tryz.f312 .index := ⟨Tryz.func312, by kernel_rfl, by kernel_rfl, by kernel_rfl, by kernel_rfl⟩
theorem xtK_ok : ∀ f x, xtK f = some x → ∃ fn, XtOk Tryz.prog f fn x := by
  intro f x h
  unfold xtK at h
  split at h
  · rename_i e; cases h; rw [Nat.eq_of_beq_eq_true e]; exact ⟨_, xt132⟩
  · split at h
    · rename_i e; cases h; rw [Nat.eq_of_beq_eq_true e]; exact ⟨_, xt341⟩
    · split at h
      · rename_i e; cases h; rw [Nat.eq_of_beq_eq_true e]; exact ⟨_, xt312⟩
      · cases h
theorem call1_ok : CallOk Tryz.prog call1 := callT_sound mixedF noCount (xtSm_ok xtK_ok (noSm_ok _)) 200
theorem gsize : Tryz.prog.globals.size = 5 := by kernel_rfl
end Go.Proofs.YtjkklcpefepohaaGreatDoor
