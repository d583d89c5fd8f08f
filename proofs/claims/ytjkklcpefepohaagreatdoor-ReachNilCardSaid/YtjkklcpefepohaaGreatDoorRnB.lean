/- maps.Keys over an empty map: no round. -/
import Derived.Test.YtjkklcpefepohaaGreatDoorRnA
import Derived.Test.YtjkklcpefepohaaGreatDoorEv8
import Derived.WalkKit
import Derived.Deep.LoopGhost
set_option linter.unusedVariables false
set_option linter.unusedSimpArgs false
namespace Go.Proofs.YtjkklcpefepohaaGreatDoor
open Go Go.Ev Go.Proofs Go.RowKit
set_option maxRecDepth 100000
theorem range_none' {P : Program} {t k e : TypeId} (hu : P.underlying t = some (.map k e)) (w : World) (m c : Nat) (h : w.heap[m]? = some (.map #[] c)) : (Instr.range t (.map (some m))).run P w = .ok (.pointer (some ⟨w.heap.size, 0, none⟩)) (w.alloc (.mapIter (some m) c #[] c)) := by
  have h1 := run_underlying (w := w) hu
  unfold Instr.range
  simp only [Sem.run_bind, h1, Result.andThen]
  have h2 : (getObj m).run P w = .ok (.map #[] c) w := by simp [getObj, Sem.run, h]
  simp only [Sem.run_bind, h2, Result.andThen, Sem.run_pure]
  rfl
theorem range_none (w : World) (m c : Nat) (h : w.heap[m]? = some (.map #[] c)) : (Instr.range 77 (.map (some m))).run Tryz.prog w = .ok (.pointer (some ⟨w.heap.size, 0, none⟩)) (w.alloc (.mapIter (some m) c #[] c)) :=
  range_none' Tryz.underlying77 w m c h
theorem next_none (w : World) (r m c : Nat) (t : TypeId) (h : w.heap[m]? = some (.map #[] c)) (h2 : w.heap[r]? = some (.mapIter (some m) c #[] c)) : (Instr.next (.pointer (some ⟨r, 0, none⟩)) false t).run Tryz.prog w = .ok (.tuple #[.bool false]) w := by
  generalize Tryz.prog = P at *
  simp [Instr.next, h, h2, Sem.run, getObj, Result.andThen, choose, Question.forced]
theorem keys61 (w : World) (y : Value) (pb po m c : Nat) (h0 : w.cell? ⟨pb, po, none⟩ = some (.map (some m))) (h : w.heap[m]? = some (.map #[] c)) :
    Calls Tryz.prog 61 #[y, .pointer (some ⟨pb, po, none⟩)] w fun e w' => e = .returned (.tuple #[]) ∧ Below w.heap.size w w' := by
  have hr := range_none w m c h
  have hs : m < w.heap.size := by
    rcases Nat.lt_or_ge m w.heap.size with h' | h'
    · exact h'
    · rw [Array.getElem?_eq_none h'] at h; cases h
  have hn : ∀ t, (Instr.next (.pointer (some ⟨w.heap.size, 0, none⟩)) false t).run Tryz.prog (w.alloc (.mapIter (some m) c #[] c)) = .ok (.tuple #[.bool false]) (w.alloc (.mapIter (some m) c #[] c)) :=
    fun t => next_none _ _ m c t (by rw [Below.heap_alloc _ _ _ hs]; exact h) (by show (w.heap.push _)[w.heap.size]? = _; rw [Array.getElem?_push, if_pos rfl])
  go_enter Tryz.func61, Tryz.ntmps61
  go_wp2
  refine wp_loop_rounds 1 ?_
  rw [rounds_succ]
  go_wp2_with (fail)
  go_end0
  exact ⟨rfl, (Below.refl _ w).alloc (Nat.le_refl _) _⟩
/-- What is known ahead of the run, where no package variable is read. -/
noncomputable def smN : Summ := keysSm 61 (xtSm xtK fun _ _ _ => none)
def sfN (f : FuncId) : Bool := match Nat.beq f 61 with
  | true => true
  | false => notB (noneB (xtK f))
noncomputable def callN : CallF := callT Tryz.prog sfN smN 1000000 1000 100000 200
theorem smN_ok : SummOk Tryz.prog smN := keysSm_ok (xtSm_ok xtK_ok (noSm_ok _)) Tryz.func61 (by kernel_rfl) (by kernel_rfl) fun w y a m c h1 h2 h3 => by
  obtain ⟨b, o, sp⟩ := a
  simp only at h2; subst h2
  exact keys61 w y b o m c h1 h3
theorem callN_ok : CallOk Tryz.prog callN := callT_sound mixedF noCount smN_ok 200
end Go.Proofs.YtjkklcpefepohaaGreatDoor

/- The calls that only look at what is nil: their contracts. -/
namespace Go.Proofs.YtjkklcpefepohaaGreatDoor
open Go Go.Ev Go.Proofs Go.RowKit
set_option maxRecDepth 100000

/-- Nothing is known; some names more. -/
theorem nil_run {f : FuncId} {fn : Func} {args args' : List Value} {v : Value} {s' : St} {w : World} (more : List Ev.Loc) (hrun : callN (.fn f) args ⟨.leaf, 5 + more.length⟩ = some ⟨.ret v, s'⟩)
    (hfn : Tryz.prog.funcs[f]? = some fn) (hname : (fn.name == "runtime.NumGoroutine") = false) (hbody : fn.body.isNone = false) (ha : LRel (gnames 5 more) args args') :
    Calls Tryz.prog f ⟨args'⟩ w fun e w' => ∃ v' ρ', e = .returned v' ∧ VRel ρ' v v' ∧ (gnames 5 more).le ρ' ∧ At Tryz.prog w.heap.size [] ρ' s' w' ∧ Below w.heap.size w w' :=
  run_from callN_ok (At.start (pre := []) gsize (by decide) rfl more (fun _ h => by cases h)) hrun rfl hfn hname hbody ha

def resOf (c : Option COut) : Option Value := match c with
  | some ⟨.ret v, _⟩ => some v
  | _ => none
theorem resOf_some {c : Option COut} {v : Value} (h : resOf c = some v) : ∃ s, c = some ⟨.ret v, s⟩ := by
  unfold resOf at h
  split at h
  · cases h; exact ⟨_, rfl⟩
  · cases h
def val (k n : Int) : Value := .agg ⟨[.int .i64 k, .int .i64 n]⟩
theorem plan_run (r : Value) : resOf (callN (.fn 4) [.pointer none, r, r] ⟨.leaf, 6⟩) = some (.tuple ⟨[.slice none 0 0, .int .i64 (.ofNat 2)]⟩) := by kernel_rfl
theorem text_run (k n : Int) : resOf (callN (.fn 7) [.pointer none, val k n] ⟨.leaf, 5⟩) = some (.string ⟨⟨[]⟩⟩) := by kernel_rfl
theorem same_run0 (k n : Int) : resOf (callN (.fn 9) [.pointer none, val k n, .pointer none, val k n] ⟨.leaf, 5⟩) = some (.bool false) := by kernel_rfl
theorem same_run1 (k n : Int) : resOf (callN (.fn 9) [.pointer (some ⟨5, 0, none⟩), val k n, .pointer none, val k n] ⟨.leaf, 6⟩) = some (.bool false) := by kernel_rfl
theorem peek_run (n : Int) : resOf (callN (.fn 17) [.pointer none, .int .i64 n] ⟨.leaf, 5⟩) = some (.tuple ⟨[.agg ⟨[.int .i64 (.ofNat 0), .slice none 0 0, .slice none 0 0]⟩, .int .i64 (.ofNat 2)]⟩) := by kernel_rfl
theorem shown_ref (n : Int) : resOf (callN (.fn 8) [.pointer none, val 4 n] ⟨.leaf, 5⟩) = some (.slice none 0 0) := by kernel_rfl
theorem shown_neg (k : Nat) (n : Int) : resOf (callN (.fn 8) [.pointer none, val (.negSucc k) n] ⟨.leaf, 5⟩) = some (.slice none 0 0) := by kernel_rfl
theorem shown_0 (n : Int) : resOf (callN (.fn 8) [.pointer none, val 0 n] ⟨.leaf, 5⟩) = some (.slice none 0 0) := by kernel_rfl
theorem shown_1 (n : Int) : resOf (callN (.fn 8) [.pointer none, val 1 n] ⟨.leaf, 5⟩) = some (.slice none 0 0) := by kernel_rfl
theorem shown_2 (n : Int) : resOf (callN (.fn 8) [.pointer none, val 2 n] ⟨.leaf, 5⟩) = some (.slice none 0 0) := by kernel_rfl
theorem shown_3 (n : Int) : resOf (callN (.fn 8) [.pointer none, val 3 n] ⟨.leaf, 5⟩) = some (.slice none 0 0) := by kernel_rfl
theorem shown_5 (k : Nat) (n : Int) : resOf (callN (.fn 8) [.pointer none, val (.ofNat (Nat.succ (Nat.succ (Nat.succ (Nat.succ (Nat.succ k)))))) n] ⟨.leaf, 5⟩) = some (.slice none 0 0) := by kernel_rfl
theorem shown_run (k n : Int) : resOf (callN (.fn 8) [.pointer none, val k n] ⟨.leaf, 5⟩) = some (.slice none 0 0) := by
  cases k with
  | negSucc k => exact shown_neg k n
  | ofNat k =>
    match k with
    | 0 => exact shown_0 n
    | 1 => exact shown_1 n
    | 2 => exact shown_2 n
    | 3 => exact shown_3 n
    | 4 => exact shown_ref n
    | k + 5 => exact shown_5 k n
end Go.Proofs.YtjkklcpefepohaaGreatDoor

/- Contracts of the calls that only look at what is nil. -/
namespace Go.Proofs.YtjkklcpefepohaaGreatDoor
open Go Go.Ev Go.Proofs Go.RowKit
set_option maxRecDepth 100000

theorem sl_rel {b o n c : Nat} (hn : n ≤ c) (hc : c < OPEN) : VRel (gnames 5 [⟨b, o, 0, 0⟩]) (.slice (some ⟨5, 0, none⟩) n c) (.slice (some ⟨b, o, none⟩) n c) :=
  .sl 5 0 ⟨b, o, 0, 0⟩ ⟨b, o, none⟩ n c rfl hc hn (.inl rfl)
theorem val_rel (ρ : Ren) (k n : Int) : VRel ρ (val k n) (.agg #[.int .i64 k, .int .i64 n]) := .agg _ _ (.cons _ _ _ _ (.int _ _) (.cons _ _ _ _ (.int _ _) .nil))
theorem two_inv {ρ : Ren} {e : Ending} {v' : Value} {k n : Int} (he : e = .returned v') (h : VRel ρ (.tuple ⟨[.slice none 0 0, .int .i64 n]⟩) v') : e = .returned (.tuple #[.slice none 0 0, .int .i64 n]) := by
  cases h with
  | tuple _ xs h =>
    obtain ⟨a, b, rfl, h1, h2⟩ := h.inv2
    cases h1; cases h2; exact he
theorem plan_nil (w : World) : Calls Tryz.prog 4 #[.pointer none, .slice none 0 0, .slice none 0 0] w fun e w' => e = .returned (.tuple #[.slice none 0 0, .int .i64 2]) ∧ Below w.heap.size w w' := by
  obtain ⟨s, hs⟩ := resOf_some (plan_run (.slice none 0 0))
  refine (nil_run [⟨0, 0, 0, 0⟩] hs Tryz.func4 (by kernel_rfl) (by kernel_rfl) (args' := [.pointer none, .slice none 0 0, .slice none 0 0]) (.cons _ _ _ _ .ptr0 (.cons _ _ _ _ .sl0 (.cons _ _ _ _ .sl0 .nil)))).mono fun e w' h => ?_
  obtain ⟨v', ρ', he, hv, _, _, hb⟩ := h
  exact ⟨two_inv (k := 0) he hv, hb⟩
theorem plan_any (w : World) (b o n c : Nat) (hn : n ≤ c) (hc : c < OPEN) : Calls Tryz.prog 4 #[.pointer none, .slice (some ⟨b, o, none⟩) n c, .slice (some ⟨b, o, none⟩) n c] w fun e w' => e = .returned (.tuple #[.slice none 0 0, .int .i64 2]) ∧ Below w.heap.size w w' := by
  obtain ⟨s, hs⟩ := resOf_some (plan_run (.slice (some ⟨5, 0, none⟩) n c))
  refine (nil_run [⟨b, o, 0, 0⟩] hs Tryz.func4 (by kernel_rfl) (by kernel_rfl) (args' := [.pointer none, .slice (some ⟨b, o, none⟩) n c, .slice (some ⟨b, o, none⟩) n c]) (.cons _ _ _ _ .ptr0 (.cons _ _ _ _ (sl_rel hn hc) (.cons _ _ _ _ (sl_rel hn hc) .nil)))).mono fun e w' h => ?_
  obtain ⟨v', ρ', he, hv, _, _, hb⟩ := h
  exact ⟨two_inv (k := 0) he hv, hb⟩
theorem plan_zero (w : World) (a : Addr) : Calls Tryz.prog 4 #[.pointer none, .slice (some a) 0 0, .slice (some a) 0 0] w fun e w' => e = .returned (.tuple #[.slice none 0 0, .int .i64 2]) ∧ Below w.heap.size w w' := by
  obtain ⟨s, hs⟩ := resOf_some (plan_run (.slice (some ⟨5, 0, none⟩) 0 0))
  have hr : VRel (gnames 5 [⟨0, 0, 0, 0⟩]) (.slice (some ⟨5, 0, none⟩) 0 0) (.slice (some a) 0 0) := .sl 5 0 ⟨0, 0, 0, 0⟩ a 0 0 rfl (by decide) (Nat.le_refl _) (.inr rfl)
  refine (nil_run [⟨0, 0, 0, 0⟩] hs Tryz.func4 (by kernel_rfl) (by kernel_rfl) (args' := [.pointer none, .slice (some a) 0 0, .slice (some a) 0 0]) (.cons _ _ _ _ .ptr0 (.cons _ _ _ _ hr (.cons _ _ _ _ hr .nil)))).mono fun e w' h => ?_
  obtain ⟨v', ρ', he, hv, _, _, hb⟩ := h
  exact ⟨two_inv (k := 0) he hv, hb⟩
theorem text_any (w : World) (k n : Int) : Calls Tryz.prog 7 #[.pointer none, .agg #[.int .i64 k, .int .i64 n]] w fun e w' => e = .returned (.string ⟨#[]⟩) ∧ Below w.heap.size w w' := by
  obtain ⟨s, hs⟩ := resOf_some (text_run k n)
  refine (nil_run [] hs Tryz.func7 (by kernel_rfl) (by kernel_rfl) (args' := [.pointer none, .agg #[.int .i64 k, .int .i64 n]]) (.cons _ _ _ _ .ptr0 (.cons _ _ _ _ (val_rel _ k n) .nil))).mono fun e w' h => ?_
  obtain ⟨v', ρ', he, hv, _, _, hb⟩ := h
  cases hv; exact ⟨he, hb⟩
theorem shown_any (w : World) (k n : Int) : Calls Tryz.prog 8 #[.pointer none, .agg #[.int .i64 k, .int .i64 n]] w fun e w' => e = .returned (.slice none 0 0) ∧ Below w.heap.size w w' := by
  obtain ⟨s, hs⟩ := resOf_some (shown_run k n)
  refine (nil_run [] hs Tryz.func8 (by kernel_rfl) (by kernel_rfl) (args' := [.pointer none, .agg #[.int .i64 k, .int .i64 n]]) (.cons _ _ _ _ .ptr0 (.cons _ _ _ _ (val_rel _ k n) .nil))).mono fun e w' h => ?_
  obtain ⟨v', ρ', he, hv, _, _, hb⟩ := h
  cases hv; exact ⟨he, hb⟩
theorem same_nil (w : World) (k n : Int) : Calls Tryz.prog 9 #[.pointer none, .agg #[.int .i64 k, .int .i64 n], .pointer none, .agg #[.int .i64 k, .int .i64 n]] w fun e w' => e = .returned (.bool false) ∧ Below w.heap.size w w' := by
  obtain ⟨s, hs⟩ := resOf_some (same_run0 k n)
  refine (nil_run [] hs Tryz.func9 (by kernel_rfl) (by kernel_rfl) (args' := [.pointer none, .agg #[.int .i64 k, .int .i64 n], .pointer none, .agg #[.int .i64 k, .int .i64 n]]) (.cons _ _ _ _ .ptr0 (.cons _ _ _ _ (val_rel _ k n) (.cons _ _ _ _ .ptr0 (.cons _ _ _ _ (val_rel _ k n) .nil))))).mono fun e w' h => ?_
  obtain ⟨v', ρ', he, hv, _, _, hb⟩ := h
  cases hv; exact ⟨he, hb⟩
theorem same_any (w : World) (b o : Nat) (k n : Int) : Calls Tryz.prog 9 #[.pointer (some ⟨b, o, none⟩), .agg #[.int .i64 k, .int .i64 n], .pointer none, .agg #[.int .i64 k, .int .i64 n]] w fun e w' => e = .returned (.bool false) ∧ Below w.heap.size w w' := by
  obtain ⟨s, hs⟩ := resOf_some (same_run1 k n)
  refine (nil_run [⟨b, o, 0, 0⟩] hs Tryz.func9 (by kernel_rfl) (by kernel_rfl) (args' := [.pointer (some ⟨b, o, none⟩), .agg #[.int .i64 k, .int .i64 n], .pointer none, .agg #[.int .i64 k, .int .i64 n]]) (.cons _ _ _ _ (.ptr 5 0 ⟨b, o, 0, 0⟩ rfl) (.cons _ _ _ _ (val_rel _ k n) (.cons _ _ _ _ .ptr0 (.cons _ _ _ _ (val_rel _ k n) .nil))))).mono fun e w' h => ?_
  obtain ⟨v', ρ', he, hv, _, _, hb⟩ := h
  cases hv; exact ⟨he, hb⟩
theorem peek_any (w : World) (n : Int) : Calls Tryz.prog 17 #[.pointer none, .int .i64 n] w fun e w' => e = .returned (.tuple #[.agg #[.int .i64 0, .slice none 0 0, .slice none 0 0], .int .i64 2]) ∧ Below w.heap.size w w' := by
  obtain ⟨s, hs⟩ := resOf_some (peek_run n)
  refine (nil_run [] hs Tryz.func17 (by kernel_rfl) (by kernel_rfl) (args' := [.pointer none, .int .i64 n]) (.cons _ _ _ _ .ptr0 (.cons _ _ _ _ (.int _ _) .nil))).mono fun e w' h => ?_
  obtain ⟨v', ρ', he, hv, _, _, hb⟩ := h
  cases hv with
  | tuple _ xs h =>
    obtain ⟨a, b, rfl, h1, h2⟩ := h.inv2
    cases h2
    cases h1 with
    | agg _ ys hq =>
      cases hq with
      | cons _ x1 _ r1 g1 hq2 =>
        obtain ⟨x2, x3, rfl, g2, g3⟩ := hq2.inv2
        cases g1; cases g2; cases g3
        exact ⟨he, hb⟩

/- ---- the keys of a map that holds nothing, sorted ---- -/
noncomputable def s5 : St := ⟨Tri.leaf.set 5 (0, .map [] 0), 6⟩
noncomputable def tailRun : Option Value := match callN (.fn 31) [.map (some 5)] s5 with
  | some ⟨.ret v, s⟩ => resOf (callN (.fn 30) [v] s)
  | _ => none
theorem tail_run : tailRun = some (.slice none 0 0) := by kernel_rfl
theorem at_map {B m : Nat} {w : World} (hB : B ≤ m) (h : w.heap[m]? = some (.map #[] 0)) : At Tryz.prog B [] (gnames 5 [⟨m, 0, 0, 0⟩]) s5 w := by
  have hs : m < w.heap.size := by
    rcases Nat.lt_or_ge m w.heap.size with h' | h'
    · exact h'
    · rw [Array.getElem?_eq_none h'] at h; cases h
  have hh : ∀ a o, rdS s5 a = some o → a = 5 ∧ o = .map [] 0 := by
    intro a o h
    unfold rdS s5 at h
    simp only [Tri.get_set, Tri.get_leaf] at h
    split at h
    · rename_i k o' heq
      split at heq
      · rename_i ha; cases heq; cases h; exact ⟨ha, rfl⟩
      · cases heq
    · cases h
  refine ⟨⟨fun a o ha => ?_, fun a a' o o' l l' h1 h2 _ _ hne => ?_, fun g hg => ?_⟩, fun a ha => ?_, fun a o l ha hl => ?_, by omega, (fun _ h => by cases h), (fun _ h => by cases h), (fun _ h => by cases h), by decide⟩
  · obtain ⟨rfl, rfl⟩ := hh a o ha
    exact ⟨⟨m, 0, 0, 0⟩, _, rfl, h, [], rfl, .nil⟩
  · exact absurd ((hh a o h1).1.trans (hh a' o' h2).1.symm) hne
  · rw [gsize] at hg; unfold gnames; rw [if_pos hg]
  · have ha : 6 ≤ a := ha
    unfold gnames
    rw [if_neg (by omega), List.getElem?_eq_none (by simp; omega)]
  · obtain ⟨rfl, rfl⟩ := hh a o ha
    cases hl
    exact .inr hB
/-- What is left to be done, at a closure. -/
def TailOk (B : Nat) (w : World) (v : Value) : Prop := Calls Tryz.prog 30 #[v] w fun e w' => e = .returned (.slice none 0 0) ∧ Below B w w'
theorem tail_any {B m : Nat} (w : World) (hB : B ≤ m) (h : w.heap[m]? = some (.map #[] 0)) : Calls Tryz.prog 31 #[.map (some m)] w fun e w' => ∃ v, e = .returned v ∧ Below B w w' ∧ TailOk B w' v := by
  have ht := tail_run
  unfold tailRun at ht
  split at ht
  · rename_i v s6 h6
    obtain ⟨s7, h7⟩ := resOf_some ht
    refine (run_from callN_ok (at_map hB h) h6 rfl Tryz.func31 (by kernel_rfl) (by kernel_rfl) (args' := [.map (some m)]) (.cons _ _ _ _ (.map 5 ⟨m, 0, 0, 0⟩ rfl) .nil)).mono fun e w' hp => ?_
    obtain ⟨v', ρ', he, hv, _, hat, hb⟩ := hp
    refine ⟨v', he, hb, ?_⟩
    refine (run_from callN_ok hat h7 rfl Tryz.func30 (by kernel_rfl) (by kernel_rfl) (args' := [v']) (.cons _ _ _ _ hv .nil)).mono fun e w'' hp => ?_
    obtain ⟨v'', ρ'', he, hv, _, _, hb⟩ := hp
    cases hv; exact ⟨he, hb⟩
  · cases ht
end Go.Proofs.YtjkklcpefepohaaGreatDoor
