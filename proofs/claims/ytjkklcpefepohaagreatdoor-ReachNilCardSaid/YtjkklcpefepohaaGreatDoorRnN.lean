/- The row's computed cells, one by one. -/
import Derived.Test.YtjkklcpefepohaaGreatDoorRows
import Derived.JoinedOf
import Derived.KernelRfl
set_option linter.unusedVariables false
set_option linter.unusedSimpArgs false
namespace Go.Proofs.YtjkklcpefepohaaGreatDoor
open Go Go.Proofs
set_option maxRecDepth 100000
/-- One of the row's cells, as the builder asks for it. -/
def Cell (q : Program → FuncId → Func → ChangeSpec → OpenClaim → Bool) : Prop := q Tryz.pinned.checked.prog 3 Tryz.f3 Rows.reachNilSpec Rows.reachNilRow = true
theorem j0 : Cell fun _ _ _ s c => c.wf (OpenSpec.ofChange s) := by unfold Cell; kernel_rfl
theorem j1 : Cell fun P _ _ _ _ => laidOutB P := by unfold Cell; kernel_rfl
theorem j2 : Cell fun P _ _ _ _ => mapsRowed P := by unfold Cell; kernel_rfl
theorem j3 : Cell fun P _ fn _ _ => fn.params.all (P.readableRec ·) := by unfold Cell; kernel_rfl
theorem j4 : Cell fun P _ _ s c => namedTie P c.named s.vars := by unfold Cell; kernel_rfl
theorem j5 : Cell fun _ _ _ _ c => (c.stops == []) := by unfold Cell; kernel_rfl
theorem j6 : Cell fun P _ _ _ _ => (P.stops == []) := by unfold Cell; kernel_rfl
theorem j7 : Cell fun _ _ _ _ c => (c.knobs == []) := by unfold Cell; kernel_rfl
theorem j8 : Cell fun P _ _ _ _ => (P.stopKnobs == []) := by unfold Cell; kernel_rfl
theorem j9 : Cell fun P f _ _ c => (c.inPlace == P.inPlace f) := by unfold Cell; kernel_rfl
theorem j10 : Cell fun P f _ _ c => (c.unfollowed == P.unfollowed f) := by unfold Cell; kernel_rfl
theorem j11 : Cell fun P f _ _ c => (c.recurses == P.recurses f) := by unfold Cell; kernel_rfl
theorem j12 : Cell fun P f _ _ c => (c.named == P.varsNamed f) := by unfold Cell; kernel_rfl
theorem j13 : Cell fun P _ fn s c => (c.maps == (fn.params.toList ++ s.plain.varTypes P).any (P.mapsRec ·)) := by unfold Cell; kernel_rfl
theorem j14 : Cell fun P _ fn s c => (c.ifaces == (fn.params.toList ++ s.plain.varTypes P).any (P.ifacesRec ·)) := by unfold Cell; kernel_rfl
theorem j15 : Cell fun P _ fn _ c => (c.mapsOut == P.mapsAmong fn.resultTypes.toList) := by unfold Cell; kernel_rfl
theorem j16 : Cell fun P _ fn s c => (c.loops == (fn.params.toList ++ s.plain.varTypes P).any (P.loopsFrom ·)) := by unfold Cell; kernel_rfl
theorem j17 : Cell fun P _ fn s c => (c.wideKeys == (fn.params.toList ++ s.plain.varTypes P ++ fn.resultTypes.toList).any (P.wideKeysFrom ·)) := by unfold Cell; kernel_rfl
theorem j18 : Cell fun P _ _ s _ => s.vars.all (P.varReadable ·) := by unfold Cell; kernel_rfl
theorem j19 : Cell fun P _ fn _ _ => fn.resultTypes.all (fun t => P.readableRec t && decide (t < P.types.size)) := by unfold Cell; kernel_rfl
theorem j20 : Cell fun P _ fn _ c => (c.ifacesOut == fn.resultTypes.toList.any (P.ifacesRec ·)) := by unfold Cell; kernel_rfl
theorem j21 : Cell fun P _ fn _ c => (c.loopsOut == fn.resultTypes.toList.any (P.loopsFrom ·)) := by unfold Cell; kernel_rfl
theorem j22 : Cell fun P _ _ _ c => (c.plainKeys == P.plainKeys) := by unfold Cell; kernel_rfl
theorem j23 : Cell fun _ _ _ _ c => c.shortTexts.isNone := by unfold Cell; kernel_rfl
theorem j24 : Cell fun P _ _ _ _ => P.stopsHeard := by unfold Cell; kernel_rfl
theorem j25 : Cell fun P _ _ _ _ => P.mayEnter := by unfold Cell; kernel_rfl
theorem j26 : Cell fun P _ _ _ c => (c.lifted == P.liftsFinal) := by unfold Cell; kernel_rfl
theorem j27 : Cell fun P _ _ _ c => (P.make == some c.make) := by unfold Cell; kernel_rfl
theorem j28 : Cell fun P _ fn _ c => (c.kinds == (if c.domain.isEmpty then [] else fn.params.toList.map fun t => match P.underlying t with | some (.int k) => some k | _ => none)) := by unfold Cell; kernel_rfl
theorem j29 : Cell fun _ _ _ _ c => (c.pinned == c.pinnedBy) := by unfold Cell; kernel_rfl
theorem j30 : Cell fun P _ fn s c => (c.veiled == (fn.params.toList ++ s.plain.varTypes P ++ fn.resultTypes.toList).any (P.veiledRec ·)) := by unfold Cell; kernel_rfl
theorem j31 : Cell fun P _ fn s c => c.veiledFits P fn.params.toList (fn.params.toList ++ s.plain.varTypes P ++ fn.resultTypes.toList) := by unfold Cell; kernel_rfl
theorem closed : joinedFacts Tryz.pinned.checked.prog 3 Tryz.f3 Rows.reachNilSpec Rows.reachNilRow = true := by
  unfold joinedFacts
  simp only [Bool.and_eq_true]
  exact ⟨⟨⟨⟨⟨⟨⟨⟨⟨⟨⟨⟨⟨⟨⟨⟨⟨⟨⟨⟨⟨⟨⟨⟨⟨⟨⟨⟨⟨⟨⟨j0, j1⟩, j2⟩, j3⟩, j4⟩, j5⟩, j6⟩, j7⟩, j8⟩, j9⟩, j10⟩, j11⟩, j12⟩, j13⟩, j14⟩, j15⟩, j16⟩, j17⟩, j18⟩, j19⟩, j20⟩, j21⟩, j22⟩, j23⟩, j24⟩, j25⟩, j26⟩, j27⟩, j28⟩, j29⟩, j30⟩, j31⟩
end Go.Proofs.YtjkklcpefepohaaGreatDoor
