/- What the row gives: the classes' names stand in their variable. -/
import Derived.Test.YtjkklcpefepohaaGreatDoorRnG
import Derived.Test.YtjkklcpefepohaaGreatDoorRows
import Derived.Test.YtjkklcpefepohaaGreatDoorTie
import Derived.Test.YtjkklcpefepohaaGreatDoorCards
import Derived.ProofKit
import Derived.HandedShaped
import Derived.OpenShut
import Derived.Lay
import Derived.LaidOnce
import Derived.SevenTiedAt
import Derived.Lib.LaidU8
set_option linter.unusedVariables false
set_option linter.unusedSimpArgs false
namespace Go.Proofs.YtjkklcpefepohaaGreatDoor
open Go Go.Ev Go.Proofs Go.RowKit
set_option maxRecDepth 100000
theorem row0 : (((begin Tryz.prog (fun _ _ => 0) default).world.heap[0]?).bind Obj.row?).map (fun x => (x.1.size, x.2)) = some (15, 184) := by kernel_rfl
theorem gname : Tryz.prog.globalNamed "lapidary/kernel.name" = some 0 := by kernel_rfl
theorem gtype : (Tryz.prog.globals[0]?).map (·.type) = some 184 := by kernel_rfl
def nbs : List (List UInt8) := [[], [79, 98, 106, 101, 99, 116], [67, 108, 97, 115, 115], [85, 110, 100, 101, 102, 105, 110, 101, 100, 79, 98, 106, 101, 99, 116], [70, 97, 108, 115, 101], [84, 114, 117, 101], [73, 110, 116, 101, 103, 101, 114], [67, 111, 109, 112, 108, 101, 120], [83, 116, 114, 105, 110, 103], [83, 121, 109, 98, 111, 108], [65, 114, 114, 97, 121], [66, 108, 111, 99, 107], [68, 105, 99, 116, 105, 111, 110, 97, 114, 121], [82, 99, 67, 111, 117, 110, 116, 101, 114], [82, 99, 66, 97, 103]]
theorem names_eq : names = nbs.map strV := rfl
theorem cells9 : Tryz.prog.cellsOf 9 = 1 := by kernel_rfl
/-- A row of texts that reads as these, holds them. -/
theorem strings_of {H : Type} {enc : TypeId × Value → H} {P : Program} {w : World} {base : Nat} {sp : Nat → Bool} {held : Bool} {fuel n : Nat} {t e : TypeId} {cs : List Value} {l : List (List UInt8)} {p : List MemPlace}
    (ht : P.underlying t = some (.array n e)) (he : P.underlying e = some .string) (hc : P.cellsOf e = 1) (hn : n = l.length) (hl : cs.length = l.length)
    (h : DataW.trod enc P w base sp held fuel t cs = some (.agg (l.map fun b => .lit (.string b)), p)) : cs = l.map strV := by
  obtain ⟨xs, m, rfl, hx, _, hxl, hel⟩ := DataW.trod_array ht h
  simp only [Prod.mk.injEq, DataW.agg.injEq] at hx
  have hx := hx.1
  apply List.ext_getElem?
  intro i
  by_cases hi : i < l.length
  · have h1 := hel i (by omega)
    have hxi : i < xs.length := by omega
    rw [List.getElem?_eq_getElem hxi] at h1
    obtain ⟨s, e1, e2, _⟩ := DataW.trod_string he h1
    rw [hc, Nat.mul_one] at e1
    have h2 : (xs.map (·.1))[i]? = (l.map fun b => (DataW.lit (.string b) : DataW H))[i]? := by rw [← hx]
    rw [List.getElem?_map, List.getElem?_map, List.getElem?_eq_getElem hxi, List.getElem?_eq_getElem hi, e2] at h2
    have h3 : s.data.toList = l[i] := by simpa using h2
    rw [List.getElem?_map, List.getElem?_eq_getElem hi]
    have h4 : cs[i]? = some (.string s) := by
      have h5 := congrArg (·[0]?) e1
      simp only [List.getElem?_take, List.getElem?_drop] at h5
      simpa using h5
    rw [h4, ← h3]; rfl
  · rw [List.getElem?_eq_none (by omega), List.getElem?_eq_none (by simp; omega)]
theorem glob_of {W : World} (hsh : W.ShapedOpen Tryz.prog) (hL : laidMet Tryz.prog Rows.reachNilRow.laid W) : GlobOk pre0 W := by
  obtain ⟨g, t, cs, fuel, p, h1, h2, h3, h4⟩ := Lib.laidMet.reads hL (n := "lapidary/kernel.name") (d := Rows.laid_lapidary_kernel_name) (.tail _ (.head _))
  obtain rfl := Option.some.inj (gname.symm.trans h1)
  obtain rfl := Option.some.inj (gtype.symm.trans h2)
  have hr := row0
  cases hz : ((begin Tryz.prog (fun _ _ => 0) default).world.heap[0]?).bind Obj.row? with
  | none => rw [hz] at hr; cases hr
  | some z =>
    obtain ⟨zero, t⟩ := z
    rw [hz] at hr
    have hr := Option.some.inj hr
    have hr1 : zero.size = 15 := congrArg (·.1) hr
    have hr2 : t = 184 := congrArg (·.2) hr
    subst hr2
    obtain ⟨cs', hh, hs, _⟩ := hsh.1 0 zero 184 (by rw [gsize]; decide) hz
    have e : cs' = cs := by
      unfold World.var? at h3
      rw [gname] at h3
      simp only [Option.bind_some, hh] at h3
      exact Option.some.inj h3
    subst e
    have hl : cs'.toList = names := by
      rw [names_eq]
      exact strings_of Tryz.underlying184 Tryz.underlying9 cells9 rfl (by rw [Array.length_toList, hs, hr1]; rfl) h4
    intro q hq
    unfold pre0 at hq
    cases hq with
    | head => rw [hh, ← hl]
    | tail _ hq => cases hq
end Go.Proofs.YtjkklcpefepohaaGreatDoor
