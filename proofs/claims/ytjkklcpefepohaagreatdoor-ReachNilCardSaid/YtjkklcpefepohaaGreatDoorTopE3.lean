import Derived.Test.YtjkklcpefepohaaGreatDoorSumB
set_option linter.unusedVariables false
set_option linter.unusedSimpArgs false
namespace Go.Proofs.YtjkklcpefepohaaGreatDoor
open Go Go.Ev Go.Proofs
noncomputable section
set_option maxRecDepth 100000
def tab1 (f : FuncId) : List Sum1 := match Nat.beq f 23 with
  | true => [eb]
  | false => []
def sf3 (f : FuncId) : Bool := match Nat.beq f 23 with
  | true => true
  | false => sf2 f
def sm3 : Summ := sumSm1 5 tab1 sm2
def call3 : CallF := callT Tryz.prog sf3 sm3 1000000 1000 100000 200
end
end Go.Proofs.YtjkklcpefepohaaGreatDoor
