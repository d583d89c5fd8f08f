/- The tied card of 'lapidarylaw18.ReachNil': whatever the input, the law is true and the input reads as it did. Conditions: those that the card's own row prints; none beside. -/
import Derived.Test.YtjkklcpefepohaaGreatDoorRnM
import Derived.Test.YtjkklcpefepohaaGreatDoorRnO
import Derived.Test.YtjkklcpefepohaaGreatDoorRnP
set_option linter.unusedVariables false
set_option linter.unusedSimpArgs false
namespace Go.Proofs.YtjkklcpefepohaaGreatDoor
open Go Go.Proofs
set_option maxRecDepth 100000
theorem reachNil_card : Rows.ReachNilCardSaid :=
  Claim7.holds_tied_plain_at .later [] [.data, .widerDeep, .pinned] true (true, "1f8fb85ab559ca9b0a377e86bc64b8eafafe6de11f6961287c697541ff699791") true
    reachNil_holds (fun _ h => by cases h) wfFact (fun _ h => by cases h) reachNil_row_tie rfl ⟨rfl, rfl⟩ mainFact rfl
    (fun f fn hf hfn => by
      obtain rfl : f = 3 := Option.some.inj (funcFact.symm.trans hf) |>.symm
      obtain rfl : fn = Tryz.f3 := (Option.some.inj (Tryz.func3.symm.trans hfn)).symm
      exact ⟨looksFact, fun j t ht => by
        rw [Tryz.params3] at ht
        have hm : t ∈ [22, 24] := by simpa using Array.mem_of_getElem? ht
        simpa using List.all_eq_true.1 standFact t hm⟩)
    goesFact
#print axioms reachNil_card
end Go.Proofs.YtjkklcpefepohaaGreatDoor
