/- What is known ahead of the runs is so. -/
import Derived.Test.YtjkklcpefepohaaGreatDoorRnA
import Derived.Test.YtjkklcpefepohaaGreatDoorTopE
import Derived.Test.YtjkklcpefepohaaGreatDoorTopE3
import Derived.Test.YtjkklcpefepohaaGreatDoorTopE4
import Derived.Test.YtjkklcpefepohaaGreatDoorSumG0
import Derived.Test.YtjkklcpefepohaaGreatDoorSumG1
import Derived.Test.YtjkklcpefepohaaGreatDoorSumG2
import Derived.Test.YtjkklcpefepohaaGreatDoorSumG3
import Derived.Test.YtjkklcpefepohaaGreatDoorSumG4
import Derived.Test.YtjkklcpefepohaaGreatDoorSumG5
import Derived.Test.YtjkklcpefepohaaGreatDoorTopK
set_option linter.unusedVariables false
set_option linter.unusedSimpArgs false
namespace Go.Proofs.YtjkklcpefepohaaGreatDoor
open Go Go.Ev Go.Proofs Go.RowKit
set_option maxRecDepth 100000
theorem all48 : ∀ e ∈ [e0, e1, e2, e3, e4, e5, e6, e7, e8, e9, e10, e11, e12, e13, e14, e15, e16, e17, e18, e19, e20, e21, e22, e23, e24, e25, e26, e27, e28, e29, e30, e31], e.f = 48 ∧ e.Ok Tryz.prog call1 5 ∧ flatL e.args = true := by
  obtain ⟨h0, h1, h2, h3, h4, h5, h6, h7, h8, h9, h10, h11, h12, h13, h14, h15⟩ := grp0
  obtain ⟨h16, h17, h18, h19, h20, h21, h22, h23, h24, h25⟩ := grp1
  obtain ⟨h26, h27, h28, h29, h30, h31⟩ := grp2
  exact List.forall_mem_cons.2 ⟨⟨rfl, h0, rfl⟩, List.forall_mem_cons.2 ⟨⟨rfl, h1, rfl⟩, List.forall_mem_cons.2 ⟨⟨rfl, h2, rfl⟩, List.forall_mem_cons.2 ⟨⟨rfl, h3, rfl⟩, List.forall_mem_cons.2 ⟨⟨rfl, h4, rfl⟩, List.forall_mem_cons.2 ⟨⟨rfl, h5, rfl⟩, List.forall_mem_cons.2 ⟨⟨rfl, h6, rfl⟩, List.forall_mem_cons.2 ⟨⟨rfl, h7, rfl⟩, List.forall_mem_cons.2 ⟨⟨rfl, h8, rfl⟩, List.forall_mem_cons.2 ⟨⟨rfl, h9, rfl⟩, List.forall_mem_cons.2 ⟨⟨rfl, h10, rfl⟩, List.forall_mem_cons.2 ⟨⟨rfl, h11, rfl⟩, List.forall_mem_cons.2 ⟨⟨rfl, h12, rfl⟩, List.forall_mem_cons.2 ⟨⟨rfl, h13, rfl⟩, List.forall_mem_cons.2 ⟨⟨rfl, h14, rfl⟩, List.forall_mem_cons.2 ⟨⟨rfl, h15, rfl⟩, List.forall_mem_cons.2 ⟨⟨rfl, h16, rfl⟩, List.forall_mem_cons.2 ⟨⟨rfl, h17, rfl⟩, List.forall_mem_cons.2 ⟨⟨rfl, h18, rfl⟩, List.forall_mem_cons.2 ⟨⟨rfl, h19, rfl⟩, List.forall_mem_cons.2 ⟨⟨rfl, h20, rfl⟩, List.forall_mem_cons.2 ⟨⟨rfl, h21, rfl⟩, List.forall_mem_cons.2 ⟨⟨rfl, h22, rfl⟩, List.forall_mem_cons.2 ⟨⟨rfl, h23, rfl⟩, List.forall_mem_cons.2 ⟨⟨rfl, h24, rfl⟩, List.forall_mem_cons.2 ⟨⟨rfl, h25, rfl⟩, List.forall_mem_cons.2 ⟨⟨rfl, h26, rfl⟩, List.forall_mem_cons.2 ⟨⟨rfl, h27, rfl⟩, List.forall_mem_cons.2 ⟨⟨rfl, h28, rfl⟩, List.forall_mem_cons.2 ⟨⟨rfl, h29, rfl⟩, List.forall_mem_cons.2 ⟨⟨rfl, h30, rfl⟩, List.forall_mem_cons.2 ⟨⟨rfl, h31, rfl⟩, fun _ h => by cases h⟩⟩⟩⟩⟩⟩⟩⟩⟩⟩⟩⟩⟩⟩⟩⟩⟩⟩⟩⟩⟩⟩⟩⟩⟩⟩⟩⟩⟩⟩⟩⟩
theorem all57 : ∀ e ∈ [e32, e33, e34, e35, e36, e37, e38, e39, e40, e41, e42, e43, e44, e45, e46, e47, e48, e49, e50, e51, e52, e53, e54, e55, e56, e57, e58, e59, e60, e61, e62, e63], e.f = 57 ∧ e.Ok Tryz.prog call1 5 ∧ flatL e.args = true := by
  obtain ⟨h32, h33, h34, h35, h36, h37, h38, h39, h40, h41, h42, h43, h44, h45, h46, h47⟩ := grp3
  obtain ⟨h48, h49, h50, h51, h52, h53, h54, h55, h56, h57⟩ := grp4
  obtain ⟨h58, h59, h60, h61, h62, h63⟩ := grp5
  exact List.forall_mem_cons.2 ⟨⟨rfl, h32, rfl⟩, List.forall_mem_cons.2 ⟨⟨rfl, h33, rfl⟩, List.forall_mem_cons.2 ⟨⟨rfl, h34, rfl⟩, List.forall_mem_cons.2 ⟨⟨rfl, h35, rfl⟩, List.forall_mem_cons.2 ⟨⟨rfl, h36, rfl⟩, List.forall_mem_cons.2 ⟨⟨rfl, h37, rfl⟩, List.forall_mem_cons.2 ⟨⟨rfl, h38, rfl⟩, List.forall_mem_cons.2 ⟨⟨rfl, h39, rfl⟩, List.forall_mem_cons.2 ⟨⟨rfl, h40, rfl⟩, List.forall_mem_cons.2 ⟨⟨rfl, h41, rfl⟩, List.forall_mem_cons.2 ⟨⟨rfl, h42, rfl⟩, List.forall_mem_cons.2 ⟨⟨rfl, h43, rfl⟩, List.forall_mem_cons.2 ⟨⟨rfl, h44, rfl⟩, List.forall_mem_cons.2 ⟨⟨rfl, h45, rfl⟩, List.forall_mem_cons.2 ⟨⟨rfl, h46, rfl⟩, List.forall_mem_cons.2 ⟨⟨rfl, h47, rfl⟩, List.forall_mem_cons.2 ⟨⟨rfl, h48, rfl⟩, List.forall_mem_cons.2 ⟨⟨rfl, h49, rfl⟩, List.forall_mem_cons.2 ⟨⟨rfl, h50, rfl⟩, List.forall_mem_cons.2 ⟨⟨rfl, h51, rfl⟩, List.forall_mem_cons.2 ⟨⟨rfl, h52, rfl⟩, List.forall_mem_cons.2 ⟨⟨rfl, h53, rfl⟩, List.forall_mem_cons.2 ⟨⟨rfl, h54, rfl⟩, List.forall_mem_cons.2 ⟨⟨rfl, h55, rfl⟩, List.forall_mem_cons.2 ⟨⟨rfl, h56, rfl⟩, List.forall_mem_cons.2 ⟨⟨rfl, h57, rfl⟩, List.forall_mem_cons.2 ⟨⟨rfl, h58, rfl⟩, List.forall_mem_cons.2 ⟨⟨rfl, h59, rfl⟩, List.forall_mem_cons.2 ⟨⟨rfl, h60, rfl⟩, List.forall_mem_cons.2 ⟨⟨rfl, h61, rfl⟩, List.forall_mem_cons.2 ⟨⟨rfl, h62, rfl⟩, List.forall_mem_cons.2 ⟨⟨rfl, h63, rfl⟩, fun _ h => by cases h⟩⟩⟩⟩⟩⟩⟩⟩⟩⟩⟩⟩⟩⟩⟩⟩⟩⟩⟩⟩⟩⟩⟩⟩⟩⟩⟩⟩⟩⟩⟩⟩
theorem tab_ok : ∀ f, ∀ e ∈ tab f, e.f = f ∧ e.Ok Tryz.prog call1 5 ∧ flatL e.args = true := by
  intro f e he
  unfold tab at he
  split at he
  · rename_i h; rw [Nat.eq_of_beq_eq_true h]; exact all48 e he
  · split at he
    · rename_i h; rw [Nat.eq_of_beq_eq_true h]; exact all57 e he
    · cases he
theorem call2_ok : CallOk Tryz.prog call2 := callT_sound mixedF noCount (xtSm_ok xtK_ok (sumSm_ok call1_ok (by rw [gsize]; exact Nat.le_refl _) tab_ok)) 200
theorem tab1_ok : ∀ f, ∀ e ∈ tab1 f, e.f = f ∧ e.Ok Tryz.prog call2 5 ∧ flatL e.args = true := by
  intro f e he
  unfold tab1 at he
  split at he
  · rename_i h; rw [Nat.eq_of_beq_eq_true h]
    cases he with
    | head => exact ⟨rfl, eb_ok, rfl⟩
    | tail _ he => cases he
  · cases he
theorem call3_ok : CallOk Tryz.prog call3 := callT_sound mixedF noCount (sumSm1_ok call2_ok (by rw [gsize]; exact Nat.le_refl _) (xtSm_ok xtK_ok (sumSm_ok call1_ok (by rw [gsize]; exact Nat.le_refl _) tab_ok)) tab1_ok) 200
theorem tab2_ok : ∀ f, ∀ e ∈ tab2 f, e.f = f ∧ e.Ok Tryz.prog call3 5 ∧ flatL e.args = true := by
  intro f e he
  unfold tab2 at he
  split at he
  · rename_i h; rw [Nat.eq_of_beq_eq_true h]
    cases he with
    | head => exact ⟨rfl, ec_ok, rfl⟩
    | tail _ he => cases he
  · cases he
theorem call4_ok : CallOk Tryz.prog call4 := callT_sound mixedF noCount (sumSm1_ok call3_ok (by rw [gsize]; exact Nat.le_refl _) (sumSm1_ok call2_ok (by rw [gsize]; exact Nat.le_refl _) (xtSm_ok xtK_ok (sumSm_ok call1_ok (by rw [gsize]; exact Nat.le_refl _) tab_ok)) tab1_ok) tab2_ok) 200
end Go.Proofs.YtjkklcpefepohaaGreatDoor

/- The contracts of both and known. -/
namespace Go.Proofs.YtjkklcpefepohaaGreatDoor
open Go Go.Ev Go.Proofs Go.RowKit
set_option maxRecDepth 100000
theorem trueRun_inv {c : Option COut} (h : trueRun c = true) : ∃ s, c = some ⟨.ret (.bool true), s⟩ ∧ stayed s pre0 = true := by
  unfold trueRun at h
  split at h
  · exact ⟨_, rfl, h⟩
  · cases h
theorem known_any (w : World) (hg : GlobOk pre0 w) : Calls Tryz.prog 10 #[] w fun e w' => e = .returned (.bool true) ∧ Below w.heap.size w w' := by
  obtain ⟨s, h1, h2⟩ := trueRun_inv known_run
  refine (run_from call4_ok (At.start (pre := pre0) gsize (by decide) (by kernel_rfl) [] hg) h1 h2 Tryz.func10 (by kernel_rfl) (by kernel_rfl) (args' := []) .nil).mono fun e w' h => ?_
  obtain ⟨v', ρ', he, hv, _, _, hb⟩ := h
  cases hv; exact ⟨he, hb⟩
theorem pick1_inv {c : Option COut} {l : List Nat} {pre : List PRow} {v : Value} {objs : List (Nat × AObj)} {n : Nat} (h : pick1 c l pre = some (v, objs, n)) : ∃ s, c = some ⟨.ret v, s⟩ ∧ stayed s pre = true := by
  unfold pick1 at h
  split at h
  · split at h
    · rename_i h1 _
      have h := Option.some.inj h
      have e1 := congrArg (·.1) h
      simp only at e1
      subst e1
      exact ⟨_, rfl, h1⟩
    · cases h
  · cases h
/-- Three pointers. -/
def Three (e : Ending) : Prop := ∃ (b o : Nat) (x y : Value), e = .returned (.tuple #[.pointer (some ⟨b, o, none⟩), x, y])
theorem both_any (w : World) (hg : GlobOk pre0 w) : Calls Tryz.prog 5 #[] w fun e w' => Three e ∧ Below w.heap.size w w' := by
  obtain ⟨s, h1, h2⟩ := pick1_inv ec_run
  refine (run_from call3_ok (At.start (pre := pre0) gsize (by decide) (by kernel_rfl) [] hg) h1 h2 Tryz.func5 (by kernel_rfl) (by kernel_rfl) (args' := []) .nil).mono fun e w' h => ?_
  obtain ⟨v', ρ', he, hv, _, _, hb⟩ := h
  refine ⟨?_, hb⟩
  unfold ec at hv
  cases hv with
  | tuple _ xs h =>
    cases h with
    | cons _ x _ r g1 h =>
      obtain ⟨x2, x3, rfl, g2, g3⟩ := h.inv2
      cases g1 with
      | ptr a o l hl => exact ⟨_, _, _, _, he⟩
end Go.Proofs.YtjkklcpefepohaaGreatDoor
