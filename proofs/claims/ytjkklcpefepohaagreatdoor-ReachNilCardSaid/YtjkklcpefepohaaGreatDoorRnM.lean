/- 'lapidarylaw18.ReachNil' is true, whatever the input; the input reads as it did. No condition beside the row's own. -/
import Derived.Test.YtjkklcpefepohaaGreatDoorRnM0
import Derived.Test.YtjkklcpefepohaaGreatDoorRnN
import Derived.Lib.SmallJoins
set_option linter.unusedVariables false
set_option linter.unusedSimpArgs false
namespace Go.Proofs.YtjkklcpefepohaaGreatDoor
open Go Go.Ev Go.Proofs Go.RowKit
open Go.ChangeShapes Go.WideShapes Go.ChangeAt Go.WideMaps Go.WideElems
set_option maxRecDepth 100000
theorem lifted (os : Os) (started : os.Started) (H : Type) (enc : TypeId × Value → H) :
    ReturnsInHanded {} Tryz.checked os 3 .any (fun w args => (Rows.reachNilSpec.pre enc Tryz.prog Tryz.f3 [] false w args ∧ laidMetH Tryz.prog Rows.reachNilRow.laid w) ∧ sizedMet enc Tryz.prog Tryz.f3 (OpenSpec.ofChange Rows.reachNilSpec) false w args)
      (Rows.reachNilSpec.post enc Tryz.prog Tryz.f3 false true false false) := by
  refine lift_shaped (C := Tryz.checked) (X := fun w _ => laidMetH Tryz.prog Rows.reachNilRow.laid w) (fun _ _ _ hh h => h.of_heap hh) own started (by kernel_rfl) Tryz.func3
    (fits os H enc) ?_
  intro W base args ds gs before hval0 hW _ hsize hsh hL _
  have hval : ∀ (j : Nat) t v, Tryz.f3.params[j]? = some t → args[j]? = some v → Value.okWide Tryz.prog W .any base t v := hval0
  have hW' := hW
  obtain ⟨p, q, hA0, hV, rfl, _, _⟩ := hW
  have hA : DataW.TrodAll enc Tryz.prog W 0 (fun _ => true) true Tryz.f3.params.toList args.toList ds p := hA0
  have hlt := hA.lt
  rw [Tryz.params3] at hA hval
  obtain ⟨v0, v1, d0, d1, p0, p1, rfl, rfl, rfl, h0, h1⟩ := trodAll_two hA
  obtain ⟨rfl, rfl⟩ := trodVars_none hV
  rw [MakeChecks.laidMetH_plain _ _ _ (by kernel_rfl)] at hL
  have hg := glob_of hsh hL
  have h0' := h0
  have h1' := h1
  obtain ⟨x0, x1, y0, y1, m, rfl, rfl, rfl, g0, g1⟩ := Joins.open_agg2 Tryz.underlying24 (by kernel_rfl) cells24 (hval 1 24 v1 rfl rfl) h1
  obtain ⟨k, e0, f0, _⟩ := DataW.trod_int Tryz.underlying3 g0
  obtain ⟨n, e1, f1, _⟩ := DataW.trod_int Tryz.underlying2 g1
  simp only [List.cons.injEq, and_true] at e0 e1
  subst e0; subst e1
  have fin : ∀ e W', e = Ending.returned (.bool true) ∧ Below W.heap.size W W' → ∃ v, e = .returned v ∧ Rows.reachNilSpec.post enc Tryz.prog Tryz.f3 false true false false W #[v0, .agg #[.int .i64 k, .int .i64 n]] v W' := by
    rintro e W' ⟨rfl, hb⟩
    exact ⟨_, rfl, _, _, _, [], _, [], hW', trodAll_mk1 (shut_bool Tryz.underlying4 _),
      trodAll_mk2 (Below.trod laidOut (by kernel_rfl) (of_decide_eq_true (by kernel_rfl)) h0' hb (fun x hx => hlt x (by simp [hx]))) (Below.trod laidOut (by kernel_rfl) (of_decide_eq_true (by kernel_rfl)) h1' hb (fun x hx => hlt x (by simp at hx ⊢; right; exact hx))), rfl, hb.frame _, fun h => by cases h⟩
  obtain ⟨a0, len, cap, rfl⟩ := okWide_slice Tryz.underlying22 (hval 0 22 v0 rfl rfl)
  obtain ⟨fuel, hf⟩ := h0
  rcases open_ints Tryz.underlying22 Tryz.underlying2 cells2 hf with ⟨hcs, hx⟩ | ⟨a, len', cap', zs, hcs, _, hl, hm, hz, hx, hcell, _⟩
  · simp [Value.cells] at hcs
    obtain ⟨rfl, rfl, rfl⟩ := hcs
    exact (law_nil k n W hg).mono fin
  · simp [Value.cells] at hcs
    obtain ⟨rfl, rfl, rfl⟩ := hcs
    simp only [Prod.mk.injEq] at hx
    simp only [if_true] at hz
    have hbig : len * 8 ≤ 140737488355328 := by
      have := sized_slice hsize (j := 0) (t := 22) (by rw [Tryz.params3]; rfl) (by rw [hx.1]; rfl) Tryz.underlying22
      rw [show Tryz.checked.prog.bytesOf 2 = 8 from bytes2] at this
      simp only [lits, List.length_map, List.length_take, List.length_drop, reachBytes] at this
      omega
    exact (law_some a len cap zs k n W hg hl hm hz hbig hcell).mono fin

theorem instFact : Tryz.f3.isInstance Tryz.pinned.checked.prog Rows.reachNilRow.origin Rows.reachNilRow.targs := of_decide_eq_true (by kernel_rfl)
theorem wrapFact : Tryz.f3.isWrapper Tryz.pinned.checked.prog Rows.reachNilRow.wrapper Rows.reachNilRow.mainSum := by
  unfold Func.isWrapper; first | (rw [if_pos (by decide +kernel)]; kernel_rfl) | (rw [if_neg (by decide +kernel)]; exact ⟨rfl, rfl⟩)
theorem funcFact : Tryz.pinned.checked.prog.funcNamed Rows.reachNilRow.func = some 3 := by kernel_rfl
theorem reachNil_holds : Rows.ReachNilSaid :=
  OpenClaim.holds_of_wide 3 Tryz.f3 rfl rfl rfl rfl rfl rfl rfl ⟨rfl, rfl, rfl, rfl, rfl⟩ rfl rfl rfl rfl rfl funcFact Tryz.func3 closed instFact wrapFact
    (fun os started H enc _ => lifted os started H enc)
end Go.Proofs.YtjkklcpefepohaaGreatDoor
