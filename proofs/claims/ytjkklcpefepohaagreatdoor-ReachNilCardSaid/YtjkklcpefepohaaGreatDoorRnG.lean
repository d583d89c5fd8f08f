/- The law's body. -/
import Derived.Test.YtjkklcpefepohaaGreatDoorRnF
import Derived.Test.YtjkklcpefepohaaGreatDoorRnE
set_option linter.unusedVariables false
set_option linter.unusedSimpArgs false
namespace Go.Proofs.YtjkklcpefepohaaGreatDoor
open Go Go.Ev Go.Proofs Go.RowKit
theorem bcell {W w1 : World} (hb : Below W.heap.size W w1) : (∀ b o, b < W.heap.size → w1.cell? ⟨b, o, none⟩ = W.cell? ⟨b, o, none⟩) ∧ (∀ b o, b < W.heap.size → w1.frozen? ⟨b, o, none⟩ = W.frozen? ⟨b, o, none⟩) :=
  ⟨fun b o h => hb.cell (p := ⟨b, o, none⟩) h, fun b o h => hb.frozen (p := ⟨b, o, none⟩) h⟩
theorem glob_below {w w' : World} (hg : GlobOk pre0 w) (hb : Below w.heap.size w w') : GlobOk pre0 w' := by
  intro p hp
  have h := hg p hp
  rw [hb.block]
  · exact h
  · rcases Nat.lt_or_ge p.a w.heap.size with h' | h'
    · exact h'
    · rw [Array.getElem?_eq_none h'] at h; cases h
theorem cell_alloc2 (w : World) (x y : Value) (t : TypeId) : (w.alloc (.cells #[x, y] t)).cell? ⟨w.heap.size, 0, none⟩ = some x ∧ (w.alloc (.cells #[x, y] t)).cell? ⟨w.heap.size, 1, none⟩ = some y := by
  have h : (w.alloc (.cells #[x, y] t)).heap[w.heap.size]? = some (.cells #[x, y] t (0, 0)) := by
    show (w.heap.push _)[w.heap.size]? = _
    rw [Array.getElem?_push, if_pos rfl]
  constructor
  · unfold World.cell?; simp only [h]; rfl
  · unfold World.cell?; simp only [h]; rfl
theorem same_gen (w : World) (p : Value) (hp : p = .pointer none ∨ ∃ b o, p = .pointer (some ⟨b, o, none⟩)) (k n : Int) : Calls Tryz.prog 9 #[p, .agg #[.int .i64 k, .int .i64 n], .pointer none, .agg #[.int .i64 k, .int .i64 n]] w fun e w' => e = .returned (.bool false) ∧ Below w.heap.size w w' := by
  rcases hp with rfl | ⟨b, o, rfl⟩
  · exact same_nil w k n
  · exact same_any w b o k n
/-- A boxed pair stays. -/
def Boxed (b : Nat) (k n : Int) (w w2 : World) : Prop := Below w.heap.size w w2 ∧ w.heap.size < w2.heap.size ∧ b = w.heap.size ∧ w2.cell? ⟨b, 0, none⟩ = some (.int .i64 k) ∧ w2.cell? ⟨b, 1, none⟩ = some (.int .i64 n)
theorem Boxed.start {k n : Int} {w w1 : World} {t : TypeId} (hb : Below (w.alloc (.cells #[.int .i64 k, .int .i64 n] t)).heap.size (w.alloc (.cells #[.int .i64 k, .int .i64 n] t)) w1) : Boxed w.heap.size k n w w1 := by
  have hs := hb.size
  have ha : (w.alloc (.cells #[.int .i64 k, .int .i64 n] t)).heap.size = w.heap.size + 1 := by simp
  obtain ⟨h0, h1⟩ := cell_alloc2 w (.int .i64 k) (.int .i64 n) t
  refine ⟨((Below.refl _ w).alloc (Nat.le_refl _) _).trans (hb.mono (by omega)), by omega, rfl, ?_, ?_⟩
  · rw [(bcell hb).1 _ _ (by omega)]; exact h0
  · rw [(bcell hb).1 _ _ (by omega)]; exact h1
theorem Boxed.step {b : Nat} {k n : Int} {w w1 w2 : World} (h : Boxed b k n w w1) (hb : Below w1.heap.size w1 w2) : Boxed b k n w w2 := by
  obtain ⟨h1, h2, h3, h4, h5⟩ := h
  refine ⟨h1.trans (hb.mono (Nat.le_of_lt h2)), Nat.lt_of_lt_of_le h2 hb.size, h3, ?_, ?_⟩
  · rw [(bcell hb).1 _ _ (by omega)]; exact h4
  · rw [(bcell hb).1 _ _ (by omega)]; exact h5
set_option maxHeartbeats 400000 in
set_option maxRecDepth 100000 in
theorem law_any (r : Value) (k n : Int) (w : World) (hg : GlobOk pre0 w)
    (hplan : ∀ w' : World, Calls Tryz.prog 4 #[.pointer none, r, r] w' fun e w'' => e = .returned (.tuple #[.slice none 0 0, .int .i64 2]) ∧ Below w'.heap.size w' w'')
    (hclos : ∀ w' : World, Below w.heap.size w w' → Calls Tryz.prog 6 #[.pointer none, r] w' fun e w'' => e = .returned (.slice none 0 0) ∧ Below w'.heap.size w' w'') :
    Calls Tryz.prog 3 #[r, .agg #[.int .i64 k, .int .i64 n]] w fun e w' => e = .returned (.bool true) ∧ Below w.heap.size w w' := by
  have HG : Hid (GlobOk pre0 w) := hg
  have HC : Hid (∀ w' : World, Below w.heap.size w w' → Calls Tryz.prog 6 #[.pointer none, r] w' fun e w'' => e = .returned (.slice none 0 0) ∧ Below w'.heap.size w' w'') := hclos
  clear hg hclos
  have hse : ∀ w, (binOp .eql 9 (.string ⟨#[]⟩) (.string ⟨#[]⟩)).run Tryz.prog w = .ok (.bool true) w := fun _ => by kernel_rfl
  go_enter Tryz.func3, Tryz.ntmps3
  go_wp2_with (go_at_call 4; go_must (refine (hplan _).mono ?_); rintro e w1 ⟨rfl, hb1⟩)
  clear hplan
  have H1 : Hid (Boxed w.heap.size k n w w1) := Boxed.start hb1
  have hy0 := H1.out.2.2.2.1
  have hy1 := H1.out.2.2.2.2
  clear hb1
  go_wp2_with (go_at_call 5; go_must (refine (both_any _ (glob_below HG.out H1.out.1)).mono ?_); rintro e w2 ⟨⟨vb, vo, y1, y2, rfl⟩, hb⟩; have H2 : Hid (Boxed w.heap.size k n w w2) := (Hid.out H1).step hb; clear H1 hb hy0 hy1; have hy0 := H2.out.2.2.2.1; have hy1 := H2.out.2.2.2.2)
  go_wp2_with (go_at_call 6; go_must (refine (HC.out _ H2.out.1).mono ?_); rintro e w3 ⟨rfl, hb⟩; have H3 : Hid (Boxed w.heap.size k n w w3) := (Hid.out H2).step hb; clear H2 hb hy0 hy1; have hy0 := H3.out.2.2.2.1; have hy1 := H3.out.2.2.2.2)
  go_wp2_with (go_at_call 7; go_must (refine (text_any _ k n).mono ?_); rintro e w4 ⟨rfl, hb⟩; have H4 : Hid (Boxed w.heap.size k n w w4) := (Hid.out H3).step hb; clear H3 hb hy0 hy1; have hy0 := H4.out.2.2.2.1; have hy1 := H4.out.2.2.2.2)
  go_wp2_with (go_at_call 8; go_must (refine (shown_any _ k n).mono ?_); rintro e w5 ⟨rfl, hb⟩; have H5 : Hid (Boxed w.heap.size k n w w5) := (Hid.out H4).step hb; clear H4 hb hy0 hy1; have hy0 := H5.out.2.2.2.1; have hy1 := H5.out.2.2.2.2)
  go_wp2_with (have _t := H5; go_at_call 9; refine (same_gen _ _ (.inl rfl) k n).mono ?_; rintro e w6 ⟨rfl, hb⟩; have H6 : Hid (Boxed w.heap.size k n w w6) := (Hid.out H5).step hb; clear H5 hb hy0 hy1; have hy0 := H6.out.2.2.2.1; have hy1 := H6.out.2.2.2.2)
  go_wp2_with (go_at_call 9; go_must (refine (same_gen _ _ (.inr ⟨vb, vo, rfl⟩) k n).mono ?_); rintro e w7 ⟨rfl, hb⟩; have H7 : Hid (Boxed w.heap.size k n w w7) := (Hid.out H6).step hb; clear H6 hb hy0 hy1; have hy0 := H7.out.2.2.2.1; have hy1 := H7.out.2.2.2.2)
  go_wp2_with (go_at_call 10; go_must (refine (known_any _ (glob_below HG.out H7.out.1)).mono ?_); rintro e w8 ⟨rfl, hb⟩; have H8 : Hid (Boxed w.heap.size k n w w8) := (Hid.out H7).step hb; clear H7 hb hy0 hy1; have hy0 := H8.out.2.2.2.1; have hy1 := H8.out.2.2.2.2)
  go_ret
  exact ⟨rfl, H8.out.1⟩
end Go.Proofs.YtjkklcpefepohaaGreatDoor
