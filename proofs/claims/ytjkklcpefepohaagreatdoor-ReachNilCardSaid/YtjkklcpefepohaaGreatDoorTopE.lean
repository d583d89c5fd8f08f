import Derived.Test.YtjkklcpefepohaaGreatDoorSumE
import Derived.KernelRfl
set_option linter.unusedVariables false
set_option linter.unusedSimpArgs false
namespace Go.Proofs.YtjkklcpefepohaaGreatDoor
open Go Go.Ev Go.Proofs
noncomputable section
def tab (f : FuncId) : List Sum0 := match Nat.beq f 48 with
  | true => [e0, e1, e2, e3, e4, e5, e6, e7, e8, e9, e10, e11, e12, e13, e14, e15, e16, e17, e18, e19, e20, e21, e22, e23, e24, e25, e26, e27, e28, e29, e30, e31]
  | false => match Nat.beq f 57 with
    | true => [e32, e33, e34, e35, e36, e37, e38, e39, e40, e41, e42, e43, e44, e45, e46, e47, e48, e49, e50, e51, e52, e53, e54, e55, e56, e57, e58, e59, e60, e61, e62, e63]
    | false => []
def sf2 (f : FuncId) : Bool := match Nat.beq f 48 with
  | true => true
  | false => match Nat.beq f 57 with
    | true => true
    | false => notB (noneB (xtK f))
def sm2 : Summ := xtSm xtK (sumSm 5 tab)
def call2 : CallF := callT Tryz.prog sf2 sm2 1000000 1000 100000 200
def strV (l : List UInt8) : Value := .string ⟨⟨l⟩⟩
def names : List Value := [strV [], strV [79, 98, 106, 101, 99, 116], strV [67, 108, 97, 115, 115], strV [85, 110, 100, 101, 102, 105, 110, 101, 100, 79, 98, 106, 101, 99, 116], strV [70, 97, 108, 115, 101], strV [84, 114, 117, 101], strV [73, 110, 116, 101, 103, 101, 114], strV [67, 111, 109, 112, 108, 101, 120], strV [83, 116, 114, 105, 110, 103], strV [83, 121, 109, 98, 111, 108], strV [65, 114, 114, 97, 121], strV [66, 108, 111, 99, 107], strV [68, 105, 99, 116, 105, 111, 110, 97, 114, 121], strV [82, 99, 67, 111, 117, 110, 116, 101, 114], strV [82, 99, 66, 97, 103]]
def s0 : St := ⟨(Tri.leaf.set 0 (0, .row (rowOf names) 15 184 false false)), 5⟩
def isT : Option COut → Bool | some ⟨.ret (.bool true), _⟩ => true | _ => false
def isS : Option COut → Bool | some ⟨.ret _, _⟩ => true | _ => false
end
end Go.Proofs.YtjkklcpefepohaaGreatDoor
