/- Closure of nothing: all roots are passed over. -/
import Derived.Test.YtjkklcpefepohaaGreatDoorRnB
import Derived.Test.YtjkklcpefepohaaGreatDoorRnD
import Derived.LoopTactic
import Derived.WalkSpells
import Derived.Maps.OwnOps
set_option linter.unusedVariables false
set_option linter.unusedSimpArgs false
namespace Go.Proofs.YtjkklcpefepohaaGreatDoor
open Go Go.Proofs Go.RowKit Go.Lib
/-- What is still to be done: some last elements of a row that is known. -/
def Todo (bq n : Nat) (zs : List Int) (v : Value) (w : World) : Prop := ∃ (m c : Nat) (a : Option Addr), m ≤ n ∧ m ≤ c ∧ c ≤ maxLen ∧ v = .slice a m c ∧ (0 < m → a = some ⟨bq, n - m, none⟩) ∧ ∀ j, j < n → w.cell? ⟨bq, j, none⟩ = some (.int .i64 (zs.getD j 0))
def lenS (v : Value) : Nat := match v with | .slice _ m _ => m | _ => 0
theorem look_none (w : World) (m c : Nat) (h : w.heap[m]? = some (.map #[] c)) (x : Int) : (Instr.lookup 77 (.map (some m)) (.int .i64 x) false).run Tryz.prog w = .ok (.bool false) w :=
  Ev.lookup_none (key := .int .i64 x) (z := .bool false) (es' := []) Tryz.underlying77 (by kernel_rfl) Tryz.underlying2 rfl (by kernel_rfl) (.inr ⟨m, c, rfl, h⟩) rfl false
theorem cell_lt {w : World} {b o : Nat} {x : Value} (h : w.cell? ⟨b, o, none⟩ = some x) : b < w.heap.size := by
  rcases Nat.lt_or_ge b w.heap.size with h' | h'
  · exact h'
  · unfold World.cell? at h
    simp only [Array.getElem?_eq_none h'] at h
    cases h
theorem todo_step {bq n : Nat} {zs : List Int} {w wr w2 : World} {o : Obj} (hcells : ∀ j, j < n → wr.cell? ⟨bq, j, none⟩ = some (.int .i64 (zs.getD j 0))) (hmap : wr.heap[w.heap.size]? = some (.map #[] 0)) (hbw : Below w.heap.size w wr) (hb2 : Below wr.heap.size wr w2)
    (m c : Nat) (a : Option Addr) (h1 : m ≤ n) (h2 : m ≤ c) (h3 : c ≤ maxLen) (ha : 0 < m → a = some ⟨bq, n - m, none⟩) :
    Todo bq n zs (.slice a m c) (w2.alloc o) ∧ (w2.alloc o).heap[w.heap.size]? = some (.map #[] 0) ∧ Below w.heap.size w (w2.alloc o) := by
  have hm : w.heap.size < wr.heap.size := by
    rcases Nat.lt_or_ge w.heap.size wr.heap.size with h' | h'
    · exact h'
    · rw [Array.getElem?_eq_none h'] at hmap; cases hmap
  have hs := hb2.size
  refine ⟨⟨m, c, a, h1, h2, h3, rfl, ha, fun j hj => ?_⟩, ?_, ?_⟩
  · have hc := hcells j hj
    refine Lib.cell?_alloc_some _ ?_
    rw [hb2.cell (p := ⟨bq, j, none⟩) (cell_lt hc)]
    exact hc
  · rw [Below.heap_alloc _ _ _ (by omega), hb2.block _ hm]
    exact hmap
  · exact (hbw.trans (hb2.mono (by omega))).alloc (by omega) _
set_option maxHeartbeats 1000000 in
set_option maxRecDepth 100000 in
theorem closure_any (r : Value) (n : Nat) (zs : List Int) (w : World)
    (hcl : ∀ w', Below w.heap.size w w' → Calls Tryz.prog 29 #[r] w' fun e w'' => ∃ v' bq, e = .returned v' ∧ Todo bq n zs v' w'' ∧ Below w'.heap.size w' w'') :
    Calls Tryz.prog 6 #[.pointer none, r] w fun e w' => e = .returned (.slice none 0 0) ∧ Below w.heap.size w w' := by
  have hmm := @run_makeMap Tryz.prog
  go_enter Tryz.func6, Tryz.ntmps6
  go_wp2_with (go_at_call 29; go_must (refine (hcl _ ((Below.refl _ w).alloc (Nat.le_refl _) _)).mono ?_); rintro e w1 ⟨v6, bq, rfl, ht, hb1⟩)
  have hb : Below w.heap.size w w1 := ((Below.refl _ w).alloc (Nat.le_refl _) _).trans (hb1.mono (by simp))
  have hm : w1.heap[w.heap.size]? = some (.map #[] 0) := by
    rw [hb1.block _ (by simp)]
    show (w.heap.push _)[w.heap.size]? = _
    rw [Array.getElem?_push, if_pos rfl]
  clear hb1 hcl
  go_loopw [6] (fun v wr => Todo bq n zs v wr ∧ wr.heap[w.heap.size]? = some (.map #[] 0) ∧ Below w.heap.size w wr) (fun v _ => lenS v)
  case atStart => exact ⟨ht, hm, hb⟩
  case round =>
    obtain ⟨⟨m, c, a, hmn, hmc, hcb, rfl, ha, hcells⟩, hmap, hbw⟩ := hrel
    have hlook := look_none wr w.heap.size 0 hmap
    by_cases hpos : 0 < m
    · obtain rfl := ha hpos
      have hcell := hcells (n - m) (by omega)
      generalize zs.getD (n - m) 0 = x at hcell
      have HC : Aside (∀ j, j < n → wr.cell? ⟨bq, j, none⟩ = some (.int .i64 (zs.getD j 0))) := hcells
      clear hcells ha
      obtain ⟨k, hk⟩ : ∃ k, k = n - m := ⟨_, rfl⟩
      rw [← hk] at hcell ⊢
      have HK : Aside (k = n - m) := hk
      clear hk
      by_cases hc1 : c = 1
      · subst hc1
        go_wp2_with (go_at_call 17; go_must (refine (peek_any _ _).mono ?_); rintro e w2 ⟨rfl, hb2⟩)
        go_roundw
        case rel => exact todo_step HC.out hmap hbw hb2 0 0 _ (by omega) (by omega) (by omega) (fun h => absurd h (by omega))
        case measure => simp [lenS]; omega
      · go_wp2_with (go_at_call 17; go_must (refine (peek_any _ _).mono ?_); rintro e w2 ⟨rfl, hb2⟩)
        go_roundw
        case rel => exact todo_step HC.out hmap hbw hb2 (m - 1) (c - 1) _ (by omega) (by omega) (by omega) (fun h => by have := HK.out; rw [show n - (m - 1) = k + 1 by omega])
        case measure => simp [lenS]; omega
    · obtain rfl : m = 0 := by omega
      go_wp2_with (first | (go_at_call 31; go_must (refine (tail_any (B := w.heap.size) _ (Nat.le_refl _) hmap).mono ?_); rintro e w2 ⟨v, rfl, hb2, htail⟩) | (go_at_call 30; go_must (refine Calls.mono htail ?_); rintro e w3 ⟨rfl, hb3⟩))
      go_ret
      exact ⟨rfl, hbw.trans (hb2.trans hb3)⟩
theorem closure_nil (w : World) : Calls Tryz.prog 6 #[.pointer none, .slice none 0 0] w fun e w' => e = .returned (.slice none 0 0) ∧ Below w.heap.size w w' :=
  closure_any _ 0 [] w fun w' _ => (clone_nil 0 0 w').mono fun e w'' h => by
    obtain ⟨rfl, rfl⟩ := h
    exact ⟨_, 0, rfl, ⟨0, 0, none, Nat.le_refl _, Nat.le_refl _, by unfold maxLen; omega, rfl, fun h => absurd h (by omega), fun j h => absurd h (by omega)⟩, .refl _ _⟩
theorem closure_zero (w : World) (a : Addr) (c : Nat) : Calls Tryz.prog 6 #[.pointer none, .slice (some a) 0 c] w fun e w' => e = .returned (.slice none 0 0) ∧ Below w.heap.size w w' :=
  closure_any _ 0 [] w fun w' _ => (clone_zero a c w').mono fun e w'' h => by
    obtain ⟨v', rfl, ⟨hl, hown⟩, hb⟩ := h
    rcases hown with ⟨rfl, _⟩ | ⟨g, cap, cur, rfl, _, hg, h1, h2, h3, h4⟩
    · exact ⟨_, 0, rfl, ⟨0, 0, none, Nat.le_refl _, Nat.le_refl _, by unfold maxLen; omega, rfl, fun h => absurd h (by omega), fun j h => absurd h (by omega)⟩, hb⟩
    · exact ⟨_, g, rfl, ⟨0, cap, _, Nat.le_refl _, h1, h2, rfl, fun h => absurd h (by omega), fun j h => absurd h (by omega)⟩, hb⟩
theorem closure_some (w : World) (b off n c : Nat) (zs : List Int) (hz : n ≤ zs.length) (hbig : n * 8 ≤ 140737488355328) (hc : ∀ j, j < zs.length → w.cell? ⟨b, off + j, none⟩ = some (.int .i64 (zs.getD j 0))) :
    Calls Tryz.prog 6 #[.pointer none, .slice (some ⟨b, off, none⟩) n c] w fun e w' => e = .returned (.slice none 0 0) ∧ Below w.heap.size w w' :=
  closure_any _ n zs w fun w' hw => (clone_some b off n c zs w' hz hbig fun j hj => by rw [hw.cell (p := ⟨b, off + j, none⟩) (cell_lt (hc j hj))]; exact hc j hj).mono fun e w'' h => by
    obtain ⟨v', rfl, ⟨hl, hown⟩, hb⟩ := h
    rcases hown with ⟨rfl, rfl⟩ | ⟨g, cap, cur, rfl, _, hg, h1, h2, h3, h4⟩
    · exact ⟨_, 0, rfl, ⟨0, 0, none, Nat.le_refl _, Nat.le_refl _, by unfold maxLen; omega, rfl, fun h => absurd h (by omega), fun j h => absurd h (by omega)⟩, hb⟩
    · refine ⟨_, g, rfl, ⟨n, cap, _, Nat.le_refl _, h1, h2, rfl, fun _ => by rw [Nat.sub_self], fun j hj => ?_⟩, hb⟩
      have h5 : cur[j]? = some (.int .i64 (zs.getD j 0)) := by
        have h6 : (cur.toList.take (n * 1))[j]? = ((zs.take n).map (Value.int .i64))[j]? := by rw [h4]
        rw [List.getElem?_take_of_lt (by omega), Array.getElem?_toList] at h6
        rw [h6]
        simp [List.getD, hj, List.getElem?_eq_getElem (show j < zs.length by omega)]
      unfold World.cell?
      simp only [hg]
      exact h5
end Go.Proofs.YtjkklcpefepohaaGreatDoor
