import Derived.Test.YtjkklcpefepohaaGreatDoorSumC
set_option linter.unusedVariables false
set_option linter.unusedSimpArgs false
namespace Go.Proofs.YtjkklcpefepohaaGreatDoor
open Go Go.Ev Go.Proofs
noncomputable section
set_option maxRecDepth 100000
def tab2 (f : FuncId) : List Sum1 := match Nat.beq f 5 with
  | true => [ec]
  | false => []
def sf4 (f : FuncId) : Bool := match Nat.beq f 5 with
  | true => true
  | false => sf3 f
def sm4 : Summ := sumSm1 5 tab2 sm3
def call4 : CallF := callT Tryz.prog sf4 sm4 1000000 1000 100000 200
end
end Go.Proofs.YtjkklcpefepohaaGreatDoor
