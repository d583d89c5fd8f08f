/-
  DERIVED. GIVEN WITH THE SEED: THE CARDS: each row of YtjkklcpefepohaaGreatDoorRows.lean that lists a variable, with what it lists TIED to the program's text (the seventh form; the later family's looks); each row that meets fmt, with fmt's text TOLD by the authors' own Lean function (tested against real Go, not proved from fmt's source: count such statements apart). THE CARD IS WHAT COUNTS. Prove the row's statement (the work); the ties are given (YtjkklcpefepohaaGreatDoorTie.lean); close each card by the builder's one call (the guide's Derived/Test/ToyasCard.lean, 'card_holds'). Laid BY PROGRAM, IN A SANDBOX (cutbox-door.mjs). By AI agents, Wed Nov 11 2026. No macro, syntax, notation, axiom, sorry.
-/
import Derived.Test.YtjkklcpefepohaaGreatDoorRows
import GoSem.ClaimSeven
namespace Go.Proofs.YtjkklcpefepohaaGreatDoor
namespace Rows

/-- THE TIED CARD OF 'lapidarylaw18.ReachNil'. -/
def reachNilCard : Claim7 := { stood := { row := reachNilRow, standIns := [], harness := (true, "1f8fb85ab559ca9b0a377e86bc64b8eafafe6de11f6961287c697541ff699791"), looks := true }, kinds := [], alts := [], laidByText := true, laidKinds := [.data, .widerDeep, .pinned], laidTests := true, laidLooks := .later }
def ReachNilCardSaid : Prop := Claim7.holds Tryz.pinned (.plain (OpenSpec.ofChange reachNilSpec)) reachNilCard

/-- THE SECOND FORM's CARD OF 'lapidarylaw18.ReachNil'. -/
def reachNilUptoCard : Claim7 := { stood := { row := reachNilUptoRow, standIns := [], harness := (true, "1f8fb85ab559ca9b0a377e86bc64b8eafafe6de11f6961287c697541ff699791"), looks := true }, kinds := [], alts := [], laidByText := true, laidKinds := [.data, .widerDeep, .pinned], laidTests := true, laidLooks := .later }
def ReachNilUptoCardSaid : Prop := Claim7.holds Tryz.pinned (.plain (OpenSpec.upto reachNilSpec)) reachNilUptoCard
end Rows
end Go.Proofs.YtjkklcpefepohaaGreatDoor
