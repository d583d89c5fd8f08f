/- What one step of the evaluator turns, the program turns. -/
import Derived.Test.YtjkklcpefepohaaGreatDoorEv3
import Derived.RangeFuncIn
import Derived.DefersIn
set_option linter.unusedVariables false
set_option linter.unusedSimpArgs false
namespace Go.Ev

/-- What was there and what came: names, blocks. -/
structure Ext (ρ : Ren) (h : Hp) (w : World) (n n' : Nat) (ρ' : Ren) (h' : Hp) (w' : World) : Prop where
  le : ρ.le ρ'
  new : ∀ a l, ρ' a = some l → ρ a = some l ∨ (n ≤ a ∧ a < n')
  size : w.heap.size ≤ w'.heap.size
  os : w'.os = w.os
  tape : w'.tape = w.tape
  output : w'.output = w.output
  own : ∀ a o l, h' a = some o → ρ' a = some l → w.heap.size ≤ l.b ∨ ∃ a0 o0 l0, h a0 = some o0 ∧ ρ a0 = some l0 ∧ l0.b = l.b
  frame : ∀ k, k < w.heap.size → (∀ a o l, h a = some o → ρ a = some l → l.b ≠ k) → w'.heap[k]? = w.heap[k]?

theorem Ext.refl (ρ : Ren) (h : Hp) (w : World) (n : Nat) : Ext ρ h w n n ρ h w :=
  ⟨.refl ρ, fun _ _ e => .inl e, Nat.le_refl _, rfl, rfl, rfl, fun a o l e e' => .inr ⟨a, o, l, e, e', rfl⟩, fun _ _ _ => rfl⟩
theorem Ext.trans {ρ ρ1 ρ2 : Ren} {h h1 h2 : Hp} {w w1 w2 : World} {n n1 n2 : Nat} (a : Ext ρ h w n n1 ρ1 h1 w1) (b : Ext ρ1 h1 w1 n1 n2 ρ2 h2 w2) (hn : n ≤ n1) (hn' : n1 ≤ n2) : Ext ρ h w n n2 ρ2 h2 w2 where
  le := a.le.trans b.le
  new := fun x l e => by
    rcases b.new x l e with h | h
    · rcases a.new x l h with h | h
      · exact .inl h
      · exact .inr ⟨h.1, by omega⟩
    · exact .inr ⟨by omega, h.2⟩
  size := Nat.le_trans a.size b.size
  os := b.os.trans a.os
  tape := b.tape.trans a.tape
  output := b.output.trans a.output
  own := fun x o l e e' => by
    rcases b.own x o l e e' with h | ⟨a0, o0, l0, q1, q2, q3⟩
    · exact .inl (Nat.le_trans a.size h)
    · rcases a.own a0 o0 l0 q1 q2 with h | ⟨a1, o1, l1, r1, r2, r3⟩
      · exact .inl (q3 ▸ h)
      · exact .inr ⟨a1, o1, l1, r1, r2, r3.trans q3⟩
  frame := fun k hk hf => by
    rw [b.frame k (Nat.lt_of_lt_of_le hk a.size) ?_, a.frame k hk hf]
    intro x o l e e'
    rcases a.own x o l e e' with h | ⟨a0, o0, l0, q1, q2, q3⟩
    · omega
    · rw [← q3]; exact hf a0 o0 l0 q1 q2

/-- No name from n on, below n', is known. -/
def Fresh (ρ : Ren) (n n' : Nat) : Prop := ∀ a, n ≤ a → a < n' → ρ a = none
theorem Fresh.sub {ρ : Ren} {n n' m m' : Nat} (h : Fresh ρ n n') (h1 : n ≤ m) (h2 : m' ≤ n') : Fresh ρ m m' := fun a x y => h a (by omega) (by omega)
theorem Fresh.ext {ρ ρ1 : Ren} {h h1 : Hp} {w w1 : World} {n n1 n2 : Nat} (f : Fresh ρ n n2) (e : Ext ρ h w n n1 ρ1 h1 w1) (hn : n ≤ n1) : Fresh ρ1 n1 n2 := fun a x y => by
  cases hq : ρ1 a with
  | none => rfl
  | some l =>
    rcases e.new a l hq with h | h
    · rw [f a (by omega) y] at h; cases h
    · omega

def Ren.upd (ρ : Ren) (a : Nat) (l : Loc) : Ren := fun x => if x = a then some l else ρ x
theorem Ren.upd_same (ρ : Ren) (a : Nat) (l : Loc) : ρ.upd a l a = some l := by simp [Ren.upd]
theorem Ren.upd_le {ρ : Ren} {a : Nat} {l : Loc} (h : ρ a = none) : ρ.le (ρ.upd a l) := by
  intro x l' e
  unfold Ren.upd
  by_cases hx : x = a
  · subst hx; rw [h] at e; cases e
  · rw [if_neg hx]; exact e
def Hp.upd (h : Hp) (a : Nat) (o : AObj) : Hp := fun x => if x = a then some o else h x

/-- A new block. -/
theorem ext_new {P : Program} {ρ : Ren} {h : Hp} {w w' : World} {a : Nat} {o : AObj} {ob : Obj} {l : Loc} (hR : Rel P ρ h w) (ha : ρ a = none) (hh : w'.heap = w.heap.push ob)
    (ho : w'.os = w.os) (ht : w'.tape = w.tape) (hu : w'.output = w.output) (hl : l.b = w.heap.size) (hob : ObjRel P ρ l o ob) :
    Ext ρ h w a (a + 1) (ρ.upd a l) (h.upd a o) w' ∧ Rel P (ρ.upd a l) (h.upd a o) w' := by
  have hle := Ren.upd_le (l := l) ha
  have hha : h a = none := by
    cases hq : h a with
    | none => rfl
    | some o' => obtain ⟨l', _, e, _⟩ := hR.obj a o' hq; rw [ha] at e; cases e
  have hlt : ∀ x ox lx, h x = some ox → ρ x = some lx → lx.b < w.heap.size := by
    intro x ox lx e e'
    obtain ⟨l', ob', e1, e2, _⟩ := hR.obj x ox e
    rw [e'] at e1; cases e1
    rcases Nat.lt_or_ge lx.b w.heap.size with h | h
    · exact h
    · rw [Array.getElem?_eq_none h] at e2; cases e2
  have hold : ∀ k, k < w.heap.size → w'.heap[k]? = w.heap[k]? := by
    intro k hk; rw [hh, Array.getElem?_push, if_neg (by omega)]
  constructor
  · refine ⟨hle, ?_, by rw [hh]; simp, ho, ht, hu, ?_, fun k hk _ => hold k hk⟩
    · intro x l' e
      unfold Ren.upd at e
      by_cases hx : x = a
      · subst hx; exact .inr ⟨Nat.le_refl _, by omega⟩
      · rw [if_neg hx] at e; exact .inl e
    · intro x ox lx e e'
      unfold Hp.upd at e; unfold Ren.upd at e'
      by_cases hx : x = a
      · subst hx; simp at e'; subst e'; exact .inl (by omega)
      · rw [if_neg hx] at e e'; exact .inr ⟨x, ox, lx, e, e', rfl⟩
  · refine ⟨?_, ?_, fun g hg => hle _ _ (hR.glob g hg)⟩
    · intro x ox e
      unfold Hp.upd at e
      by_cases hx : x = a
      · subst hx; simp at e; subst e
        refine ⟨l, ob, Ren.upd_same _ _ _, ?_, hob.mono hle⟩
        rw [hh, hl]; exact Array.getElem?_push_size
      · rw [if_neg hx] at e
        obtain ⟨lx, obx, e1, e2, e3⟩ := hR.obj x ox e
        exact ⟨lx, obx, hle _ _ e1, by rw [hold _ (hlt x ox lx e e1)]; exact e2, e3.mono hle⟩
    · intro x y ox oy lx ly e e' f f' hne
      unfold Hp.upd at e e'; unfold Ren.upd at f f'
      by_cases hx : x = a
      · by_cases hy : y = a
        · omega
        · subst hx
          rw [if_neg hy] at e' f'
          simp at f; subst f
          have := hlt y oy ly e' f'
          omega
      · rw [if_neg hx] at e f
        by_cases hy : y = a
        · subst hy
          simp at f'; subst f'
          have := hlt x ox lx e f
          omega
        · rw [if_neg hy] at e' f'
          exact hR.inj x y ox oy lx ly e e' f f' hne

/-- A block that is turned. -/
theorem ext_put {P : Program} {ρ : Ren} {h : Hp} {w w' : World} {a n : Nat} {o o' : AObj} {ob : Obj} {l : Loc} (hR : Rel P ρ h w) (ha : h a = some o) (hl : ρ a = some l)
    (hs : w'.heap.size = w.heap.size) (hb : w'.heap[l.b]? = some ob) (hh : ∀ k, k ≠ l.b → w'.heap[k]? = w.heap[k]?)
    (ho : w'.os = w.os) (ht : w'.tape = w.tape) (hu : w'.output = w.output) (hob : ObjRel P ρ l o' ob) (n' : Nat) :
    Ext ρ h w n n' ρ (h.upd a o') w' ∧ Rel P ρ (h.upd a o') w' := by
  constructor
  · refine ⟨.refl ρ, fun _ _ e => .inl e, by omega, ho, ht, hu, ?_, ?_⟩
    · intro x ox lx e e'
      unfold Hp.upd at e
      by_cases hx : x = a
      · subst hx; rw [hl] at e'; cases e'; exact .inr ⟨x, o, l, ha, hl, rfl⟩
      · rw [if_neg hx] at e; exact .inr ⟨x, ox, lx, e, e', rfl⟩
    · intro k hk hf
      exact hh k (fun e => hf a o l ha hl e.symm)
  · refine ⟨?_, ?_, hR.glob⟩
    · intro x ox e
      unfold Hp.upd at e
      by_cases hx : x = a
      · subst hx; simp at e; subst e; exact ⟨l, ob, hl, hb, hob⟩
      · rw [if_neg hx] at e
        obtain ⟨lx, obx, e1, e2, e3⟩ := hR.obj x ox e
        exact ⟨lx, obx, e1, by rw [hh _ (hR.inj x a ox o lx l e ha e1 hl hx)]; exact e2, e3⟩
    · intro x y ox oy lx ly e e' f f' hne
      unfold Hp.upd at e e'
      have gx : ∃ o1, h x = some o1 := by
        by_cases hx : x = a
        · exact ⟨o, hx ▸ ha⟩
        · rw [if_neg hx] at e; exact ⟨_, e⟩
      have gy : ∃ o1, h y = some o1 := by
        by_cases hy : y = a
        · exact ⟨o, hy ▸ ha⟩
        · rw [if_neg hy] at e'; exact ⟨_, e'⟩
      obtain ⟨o1, g1⟩ := gx
      obtain ⟨o2, g2⟩ := gy
      exact hR.inj x y o1 o2 lx ly g1 g2 f f' hne

theorem rdS_put (s : St) (a : Nat) (o : AObj) : rdS (s.put a o) = Hp.upd (rdS s) a o := by
  funext x
  unfold rdS St.put Hp.upd
  simp only [Tri.get_set]
  by_cases h : x = a
  · simp [h]
  · simp [h]
theorem rdS_new (s : St) (o : AObj) : rdS (s.new o) = Hp.upd (rdS s) s.n o := by
  funext x
  unfold rdS St.new Hp.upd
  simp only [Tri.get_set]
  by_cases h : x = s.n
  · simp [h]
  · simp [h]
theorem rdS_kill (s : St) (a : Nat) : rdS (s.kill a) = fun x => if x = a then none else rdS s x := by
  funext x
  unfold rdS St.kill
  simp only [Tri.get_del]
  by_cases h : x = a
  · simp [h]
  · simp [h]

/-- Cells laid into a row. -/
def putL : List Value → Nat → Array Value → Array Value
  | [], _, c => c
  | v :: vs, k, c => putL vs (k + 1) (c.setIfInBounds k v)
theorem putL_get : ∀ (vs : List Value) (k : Nat) (c : Array Value), (putL vs k c).size = c.size ∧ ∀ j : Nat, (putL vs k c)[j]? = if k ≤ j ∧ j < k + vs.length ∧ j < c.size then vs[j - k]? else c[j]? := by
  intro vs
  induction vs with
  | nil => intro k c; refine ⟨rfl, fun j => ?_⟩; simp only [putL]; rw [if_neg (by simp; omega)]
  | cons v vs ih =>
    intro k c
    simp only [putL]
    obtain ⟨h1, h2⟩ := ih (k + 1) (c.setIfInBounds k v)
    refine ⟨by rw [h1]; simp, fun j => ?_⟩
    rw [h2 j]
    by_cases c1 : k + 1 ≤ j ∧ j < k + 1 + vs.length ∧ j < c.size
    · rw [if_pos (by simpa using c1), if_pos (by simp; omega)]
      have : j - k = (j - (k + 1)) + 1 := by omega
      rw [this]; simp
    · rw [if_neg (by simpa using c1), Array.getElem?_setIfInBounds]
      by_cases c2 : k = j
      · subst c2
        by_cases c3 : k < c.size
        · simp [c3]
        · simp [c3]
      · rw [if_neg c2, if_neg (by simp; omega)]
theorem oneL_rel {ρ : Ren} : ∀ {l l' : List Value}, LRel ρ l l' → oneL l = true → ∀ v ∈ l', v.oneCell' = true := by
  intro l
  induction l with
  | nil => intro l' h _ v hv; cases h; cases hv
  | cons x l ih =>
    intro l' h ho v hv
    cases h with
    | cons _ x' _ l' e h =>
      have hx : x'.oneCell' = true ∧ oneL l = true := by
        cases e <;> first
          | exact ⟨rfl, ho⟩
          | (simp [oneL] at ho)
      rcases List.mem_cons.1 hv with rfl | hv
      · exact hx.1
      · exact ih h hx.2 v hv

theorem storeCells_run {P : Program} {b o : Nat} {e : TypeId} {fr : Nat × Nat} : ∀ (vs : List Value) (i : Nat) (c : Array Value) (w : World), w.heap[b]? = some (.cells c e fr) → o + i + vs.length ≤ c.size →
    (∀ i, i < c.size → ¬ (fr.1 ≤ i ∧ i < fr.2)) → (∀ v ∈ vs, v.oneCell' = true) →
    ∃ w', (storeCells ⟨b, o, none⟩ vs i).run P w = .ok () w' ∧ w'.heap.size = w.heap.size ∧ w'.heap[b]? = some (.cells (putL vs (o + i) c) e fr) ∧ (∀ k, k ≠ b → w'.heap[k]? = w.heap[k]?) ∧ w'.os = w.os ∧ w'.tape = w.tape ∧ w'.output = w.output := by
  intro vs
  induction vs with
  | nil => intro i c w hb _ _ _; exact ⟨w, by simp [storeCells], rfl, hb, fun _ _ => rfl, rfl, rfl, rfl⟩
  | cons v vs ih =>
    intro i c w hb hlen hfr hone
    have hlt : o + i < c.size := by simp at hlen; omega
    have hc : w.cell? ⟨b, o + i, none⟩ = some (c[o + i]'hlt) := by
      simp [World.cell?, hb, hlt]
    have hf : w.frozen? ⟨b, o + i, none⟩ = false := by
      have h1 := hfr (o + i) (by simp at hlen; omega)
      simp only [World.frozen?, hb]
      simp; omega
    have hb' : (w.setCell ⟨b, o + i, none⟩ v).heap[b]? = some (.cells (c.setIfInBounds (o + i) v) e fr) := by
      simp [World.setCell, Array.getElem?_modify, hb]
    obtain ⟨w', r1, r2, r3, r4, r5, r6, r7⟩ := ih (i + 1) (c.setIfInBounds (o + i) v) (w.setCell ⟨b, o + i, none⟩ v) hb' (by simp at hlen ⊢; omega) (by simpa using hfr) (fun x hx => hone x (by simp [hx]))
    refine ⟨w', ?_, by rw [r2]; simp, ?_, ?_, r5, r6, r7⟩
    · simp only [storeCells, Sem.run_bind, add_none]
      rw [run_store P w ⟨b, o + i, none⟩ v .plain (hone v (by simp)), hc]
      simp only [hf, Bool.false_eq_true, if_false, Result.andThen_ok]
      exact r1
    · simpa [putL, Nat.add_assoc] using r3
    · intro k hk
      rw [r4 k hk]
      simp [World.setCell, Array.getElem?_modify, Ne.symm hk]

/-- The state's marks: what bears an elder mark has not been turned. -/
structure StLe (s s' : St) : Prop where
  n : s.n ≤ s'.n
  old : ∀ a k o, s'.h.get a = some (k, o) → k < s.n → s.h.get a = some (k, o)
  dom : ∀ a x, s'.h.get a = some x → s'.n ≤ a → ∃ y, s.h.get a = some y
theorem StLe.refl (s : St) : StLe s s := ⟨Nat.le_refl _, fun _ _ _ h _ => h, fun _ x h _ => ⟨x, h⟩⟩
theorem StLe.trans {a b c : St} (h : StLe a b) (h' : StLe b c) : StLe a c :=
  ⟨Nat.le_trans h.n h'.n, fun x k o e hk => h.old x k o (h'.old x k o e (Nat.lt_of_lt_of_le hk h.n)) hk, fun x y e hx => by
    obtain ⟨z, hz⟩ := h'.dom x y e hx
    exact h.dom x z hz (Nat.le_trans h'.n hx)⟩
theorem StLe.put (s : St) (a : Nat) (o : AObj) (ha : ∃ y, rdS s a = some y) : StLe s (s.put a o) := by
  refine ⟨Nat.le_succ _, fun x k ox e hk => ?_, fun x y e _ => ?_⟩
  · simp only [St.put, Tri.get_set] at e
    by_cases h : x = a
    · rw [if_pos h] at e; cases e; omega
    · rw [if_neg h] at e; exact e
  · simp only [St.put, Tri.get_set] at e
    by_cases h : x = a
    · subst h
      obtain ⟨y, hy⟩ := ha
      unfold rdS at hy
      split at hy
      · rename_i k o' heq; exact ⟨_, heq⟩
      · cases hy
    · rw [if_neg h] at e; exact ⟨_, e⟩
theorem StLe.new (s : St) (o : AObj) : StLe s (s.new o) := by
  refine ⟨Nat.le_succ _, fun x k ox e hk => ?_, fun x y e hx => ?_⟩
  · simp only [St.new, Tri.get_set] at e
    by_cases h : x = s.n
    · rw [if_pos h] at e; cases e; omega
    · rw [if_neg h] at e; exact e
  · simp only [St.new, Tri.get_set] at e
    by_cases h : x = s.n
    · have : s.n + 1 ≤ x := hx
      omega
    · rw [if_neg h] at e; exact ⟨_, e⟩
theorem StLe.kill (s : St) (a : Nat) : StLe s (s.kill a) := by
  refine ⟨Nat.le_refl _, fun x k ox e hk => ?_, fun x y e _ => ?_⟩
  · simp only [St.kill, Tri.get_del] at e
    by_cases h : x = a
    · rw [if_pos h] at e; cases e
    · rw [if_neg h] at e; exact e
  · simp only [St.kill, Tri.get_del] at e
    by_cases h : x = a
    · rw [if_pos h] at e; cases e
    · rw [if_neg h] at e; exact ⟨_, e⟩

theorem storeA_le {s s' : St} {a : Addr} {l : List Value} (h : storeA s a l = some s') : StLe s s' := by
  unfold storeA at h
  split at h
  · rename_i hrow
    split at h
    · cases h; exact StLe.put _ _ _ ⟨_, hrow⟩
    · cases h
  · cases h

section
variable {P : Program} {ρ : Ren} {w : World}
theorem storeH_sound {h : Hp} {a : Nat} {o : Nat} {lc : Loc} {l l' : List Value} {cs : Tri Value} {n : Nat} {e : TypeId} {opn fz : Bool} (hR : Rel P ρ h w) (hrow : h a = some (.row cs n e opn fz)) (hle : o + l.length ≤ n) (hone : oneL l = true)
    (hl : ρ a = some lc) (hv : LRel ρ l l') :
    ∃ w', (storeCells ⟨lc.b, lc.o + o, none⟩ l').run P w = .ok () w' ∧ (∀ m m', Ext ρ h w m m' ρ (h.upd a (.row (setCells l o cs) n e opn fz)) w') ∧ Rel P ρ (h.upd a (.row (setCells l o cs) n e opn fz)) w' := by
  obtain ⟨lc', ob, e1, e2, e3⟩ := hR.obj _ _ hrow
  rw [hl] at e1; cases e1
  obtain ⟨c, fr, g0, g1, g2, g3, g4, g5⟩ := e3
  rw [g0] at e2
  have hlen := hv.length
  have hsz : lc.o + o + 0 + l'.length ≤ c.size := by
    cases opn with
    | false => obtain ⟨q1, q2⟩ := g4 rfl; omega
    | true => obtain ⟨q1, q2, _⟩ := g5 rfl; omega
  obtain ⟨w', r1, r2, r3, r4, r5, r6, r7⟩ := storeCells_run (P := P) (e := e) (fr := fr) l' 0 c w e2 hsz g2 (oneL_rel hv hone)
  simp only [Nat.add_zero] at r3
  obtain ⟨p1, p2⟩ := putL_get l' (lc.o + o) c
  have hob : ObjRel P ρ lc (.row (setCells l o cs) n e opn fz) (.cells (putL l' (lc.o + o) c) e fr) := by
    refine ⟨_, fr, rfl, fun i hi => ?_, by rw [p1]; exact g2, g3, fun h => by rw [p1]; exact g4 h, fun h => by rw [p1]; exact g5 h⟩
    obtain ⟨v, v', f1, f2, f3⟩ := g1 i hi
    rw [setCells_get, p2]
    have hci : lc.o + i < c.size := by
      rcases Nat.lt_or_ge (lc.o + i) c.size with h | h
      · exact h
      · rw [Array.getElem?_eq_none h] at f2; cases f2
    by_cases hi2 : o ≤ i ∧ i < o + l.length
    · rw [if_pos hi2, if_pos (by omega)]
      have hlt : i - o < l.length := by omega
      obtain ⟨u', q1, q2⟩ := hv.get (i - o) l[i - o] (List.getElem?_eq_getElem hlt)
      refine ⟨l[i - o], u', List.getElem?_eq_getElem hlt, ?_, q2⟩
      have : lc.o + i - (lc.o + o) = i - o := by omega
      rw [this]; exact q1
    · rw [if_neg hi2, if_neg (by omega)]
      exact ⟨v, v', f1, f2, f3⟩
  exact ⟨w', r1, fun m m' => (ext_put (n := m) hR hrow hl r2 r3 r4 r5 r6 r7 hob m').1, (ext_put (n := 0) hR hrow hl r2 r3 r4 r5 r6 r7 hob 0).2⟩
theorem storeA_sound {s s' : St} {a : Nat} {o : Nat} {lc : Loc} {l l' : List Value} (hR : Rel P ρ (rdS s) w) (hq : storeA s ⟨a, o, none⟩ l = some s') (hl : ρ a = some lc) (hv : LRel ρ l l') :
    ∃ w', (storeCells ⟨lc.b, lc.o + o, none⟩ l').run P w = .ok () w' ∧ Ext ρ (rdS s) w s.n s'.n ρ (rdS s') w' ∧ Rel P ρ (rdS s') w' := by
  unfold storeA at hq
  split at hq
  · rename_i cs n e opn fz _ hrow
    split at hq
    · rename_i hle hone
      cases hq
      obtain ⟨w', r1, r2, r3⟩ := storeH_sound hR hrow (Nat.le_of_ble_eq_true hle) hone hl hv
      refine ⟨w', r1, ?_, ?_⟩
      · rw [rdS_put]; exact r2 _ _
      · rw [rdS_put]; exact r3
    · cases hq
  · cases hq

theorem sliceCells_sound {s : St} {sz : Nat} {x x' : Value} {l : List Value} (hR : Rel P ρ (rdS s) w) (hq : sliceCells s sz x = some l) (hx : VRel ρ x x') {n : Nat} (hn : lenV x = some n) :
    ∃ l', (Builtin.firstCells sz n x').run P w = .ok ⟨l'⟩ w ∧ LRel ρ l l' := by
  unfold sliceCells at hq
  split at hq
  · cases hq
    cases hx
    simp [lenV] at hn; subst hn
    exact ⟨[], by simp [Builtin.firstCells], .nil⟩
  · rename_i a m cap
    split at hq
    · rename_i cs m0 e opn fz hsp hrow
      split at hq
      · rename_i hle
        have hle : a.off + m * sz ≤ m0 := Nat.le_of_ble_eq_true hle
        simp [lenV] at hn; subst hn
        have main : ∀ (a0 o0 : Nat) (lc : Loc) (p : Addr) (c' : Nat), a = ⟨a0, o0, none⟩ → ρ a0 = some lc → m ≤ c' → (p = ⟨lc.b, lc.o + o0, none⟩ ∨ c' = 0) →
            ∃ l', (Builtin.firstCells sz m (.slice (some p) m c')).run P w = .ok ⟨l'⟩ w ∧ LRel ρ l l' := by
          intro a0 o0 lc p c' q1 q2 q3 q4
          subst q1
          rcases q4 with q4 | q4
          · subst q4
            obtain ⟨l', g1, g2⟩ := hR.cells hrow q2 hle hq
            exact ⟨l', by simp [Builtin.firstCells, g1], g2⟩
          · have hn0 : m = 0 := by omega
            subst hn0
            have : (0 : Nat).mul sz = 0 := Nat.zero_mul sz
            rw [this] at hq
            simp [cellsFrom] at hq
            subst hq
            exact ⟨[], by simp [Builtin.firstCells, loadCells, loadCellsFrom], .nil⟩
        cases hx with
        | sl a0 o0 lc p _ _ e1 e2 e3 e4 => exact main a0 o0 lc p _ rfl e1 e3 e4
        | slo a0 o0 k lc p _ c' e1 e2 e3 e4 e5 => exact main a0 o0 lc p c' rfl e1 e4 e5
      · cases hq
    · cases hq
  · rename_i b
    split at hq
    · cases hq
      simp [lenV] at hn; subst hn
      have := string_rel hx
      subst this
      refine ⟨b.data.toList.map fun x => .int .u8 x.toNat, ?_, ?_⟩
      · simp only [Builtin.firstCells, Sem.run_pure]
        have : b.extract 0 b.size = b := by
          apply ByteArray.ext; rw [ByteArray.data_extract]
          have : b.size = b.data.size := rfl
          rw [this]; simp
        rw [this]
        congr 1
        apply Array.ext'
        simp
      · refine LRel.of_get (by simp) fun i v v' e1 e2 => ?_
        rw [List.getElem?_map] at e1 e2
        cases hq : b.data.toList[i]? with
        | none => rw [hq] at e1; cases e1
        | some u => rw [hq] at e1 e2; cases e1; cases e2; exact .int _ _
    · cases hq
  · cases hq
end
end Go.Ev

/- Append. -/
namespace Go.Ev
section
variable {P : Program} {ρ : Ren} {w : World}

/-- What a call or an operation leaves behind. -/
def Aft (P : Program) (ρ : Ren) (s : St) (w : World) (s' : St) (ρ' : Ren) (w' : World) : Prop :=
  Ext ρ (rdS s) w s.n s'.n ρ' (rdS s') w' ∧ Rel P ρ' (rdS s') w'

theorem growBy_le (newLen : Nat) : ∀ (r c : Nat), Builtin.growBy newLen r c ≤ 2 ^ r * (c + 768) := by
  intro r
  induction r with
  | zero => intro c; simp [Builtin.growBy]
  | succ r ih =>
    intro c
    simp only [Builtin.growBy]
    split
    · have : 1 ≤ 2 ^ (r + 1) := Nat.one_le_two_pow
      calc c ≤ 1 * (c + 768) := by omega
        _ ≤ 2 ^ (r + 1) * (c + 768) := Nat.mul_le_mul_right _ this
    · refine Nat.le_trans (ih _) ?_
      rw [Nat.pow_succ, Nat.mul_assoc]
      exact Nat.mul_le_mul_left _ (by omega)
theorem nextslicecap_le {need cap : Nat} (h : cap < need) : Builtin.nextslicecap need cap ≤ 16 * (need + 768) := by
  unfold Builtin.nextslicecap
  split
  · omega
  · split
    · omega
    · exact Nat.le_trans (growBy_le need 4 cap) (by omega)

theorem nextslicecap_small {need cap : Nat} (h : cap < need) (hn : need ≤ 100000) : Builtin.nextslicecap need cap ≤ 1612288 := by
  exact Nat.le_trans (nextslicecap_le h) (Nat.mul_le_mul_left 16 (Nat.add_le_add_right hn 768))

theorem zeroCells_eq (z : Array Value) (n : Nat) : (Builtin.zeroCells z n).size = n * z.size := by simp [Builtin.zeroCells]

theorem append_some {t t2 ty : TypeId} {e : TypeId} {d2 : TypeDesc} {sz : Nat} {y' : Value} {a : Addr} {n cap m : Nat} {new : List Value} (hu : P.underlying t = some (.slice e)) (hu2 : P.underlying t2 = some d2)
    (hd2 : ∀ k, d2 ≠ .int k) (hsz : sizeT P e = some sz) (hn : (Builtin.lenOf y').run P w = .ok m w) (hnew : (Builtin.firstCells sz m y').run P w = .ok ⟨new⟩ w) (h : n + m ≤ cap)
    {w' : World} (hst : (storeCells (a.add (n * sz)) new).run P w = .ok () w') :
    (Builtin.append_ #[t, t2] ty #[.slice (some a) n cap, y']).run P w = .ok (.slice (some a) (n + m) cap) w' := by
  simp [Builtin.append_, run_und hu, run_und hu2, run_size hsz, hn]
  split
  · simp [hnew, hst]
  · rename_i hx; exact absurd h hx
theorem append_none {t t2 ty : TypeId} {e : TypeId} {d2 : TypeDesc} {sz : Nat} {y' : Value} {n cap m : Nat} {new : List Value} (hu : P.underlying t = some (.slice e)) (hu2 : P.underlying t2 = some d2)
    (hd2 : ∀ k, d2 ≠ .int k) (hsz : sizeT P e = some sz) (hn : (Builtin.lenOf y').run P w = .ok m w) (hnew : (Builtin.firstCells sz m y').run P w = .ok ⟨new⟩ w) (h : n + m ≤ cap) :
    (Builtin.append_ #[t, t2] ty #[.slice none n cap, y']).run P w = .ok (.slice none (n + m) cap) w := by
  simp [Builtin.append_, run_und hu, run_und hu2, run_size hsz, hn]
  split
  · simp [hnew]
  · rename_i hx; exact absurd h hx
theorem cut_ge (need cap : Nat) (e : TypeId) (t : Nat) : need ≤ (Question.appendCap need cap e).cut t := by
  simp only [Question.cut]
  exact Nat.le_add_right _ _
theorem append_grow {t t2 ty : TypeId} {e : TypeId} {d2 : TypeDesc} {sz : Nat} {i : TypeInfo} {z : Value} {y' : Value} {base : Option Addr} {n cap m : Nat} {old new : List Value} (hu : P.underlying t = some (.slice e)) (hu2 : P.underlying t2 = some d2)
    (hd2 : ∀ k, d2 ≠ .int k) (hsz : sizeT P e = some sz) (hn : (Builtin.lenOf y').run P w = .ok m w) (h : ¬ n + m ≤ cap) (hle : n + m ≤ 100000) (hi : P.info? e = some i) (hib : i.bytes ≤ 100000)
    (hz : zeroT P e = some z) (hold : (Builtin.firstCells sz n (.slice base n cap)).run P w.drew = .ok ⟨old⟩ w.drew) (hnew : (Builtin.firstCells sz m y').run P w.drew = .ok ⟨new⟩ w.drew) :
    ∃ nc, n + m ≤ nc ∧ (Builtin.append_ #[t, t2] ty #[.slice base n cap, y']).run P w = .ok (.slice (some ⟨w.heap.size, 0, none⟩) (n + m) nc) (w.drew.alloc (.cells ((⟨old⟩ : Array Value) ++ ⟨new⟩ ++ Builtin.zeroCells z.cells (nc - (n + m))) e)) := by
  have hge := cut_ge (n + m) cap e (w.tape w.drawn (.appendCap (n + m) cap e))
  generalize hnc : (Question.appendCap (n + m) cap e).cut (w.tape w.drawn (.appendCap (n + m) cap e)) = nc at hge
  refine ⟨nc, hge, ?_⟩
  have hnf : (Question.appendCap (n + m) cap e).forced = false := rfl
  have h1 : ¬ (IntKind.i64.max < ((n + m : Nat) : Int) ∧ i.bytes = 0) := by
    rintro ⟨q, _⟩
    simp only [IntKind.max, IntKind.signed, IntKind.bits, if_true] at q
    omega
  have hcap : cap < n + m := by omega
  have h2 : ¬ (2 ^ 48 < Builtin.nextslicecap (n + m) cap * i.bytes) := by
    have q2 := Nat.mul_le_mul (nextslicecap_small hcap hle) hib
    exact Nat.not_lt.2 (Nat.le_trans q2 (by decide))
  simp [Builtin.append_, run_und hu, run_und hu2, run_size hsz, hn]
  split
  · rename_i hx; exact absurd hx h
  · simp only [run_ti hi, Result.andThen_ok]
    have h1' : ¬ (9223372036854775807 < (n : Int) + m ∧ i.bytes = 0) := by rintro ⟨q, _⟩; omega
    have h2' : ¬ 281474976710656 < Builtin.nextslicecap (n + m) cap * i.bytes := h2
    rw [if_neg h1', if_neg h2']
    simp only [hnf, hnc, Bool.false_eq_true, if_false, hold, hnew, run_zero hz, Result.andThen_ok, newRow, Sem.run_bind, run_newObj, Sem.run_pure, World.alloc_eq, World.size_drew, Array.append_assoc]
    have hap : ∀ r : Array Value, (⟨old⟩ : Array Value) ++ (⟨new⟩ ++ r) = (old ++ new).toArray ++ r := by intro r; apply Array.ext'; simp
    rw [hap]

theorem elemZ_two {e : TypeId} {sz : Nat} {z : List Value} (h : elemZ P e = some (sz, z)) : sizeT P e = some sz ∧ 0 < sz ∧ ∃ v, zeroT P e = some v ∧ v.cells.size = sz ∧ LRel ρ z v.cells.toList := by
  obtain ⟨h1, h2, h3, h4, v, h5, h6⟩ := elemZ_eq (ρ := ρ) h
  refine ⟨h1, h4, v, h5, ?_, ?_⟩
  · rw [← h2, h6, ← cellsV_cells]; simp
  · rw [cellsV_cells, ← h6]; exact h3

theorem Rel.drew {h : Hp} (hR : Rel P ρ h w) : Rel P ρ h w.drew := ⟨hR.obj, hR.inj, hR.glob⟩

theorem lenOf_rel {y y' : Value} {m : Nat} (hy : VRel ρ y y') (hm : lenV y = some m) : (Builtin.lenOf y').run P w = .ok m w := by
  unfold lenV at hm
  split at hm
  · cases hm; cases hy <;> simp [Builtin.lenOf]
  · cases hm; cases hy; simp [Builtin.lenOf]
  · cases hm

/-- A slice that has outgrown its row. -/
theorem cellsL_get (cs : Tri Value) : ∀ (k i : Nat), (∀ j, j < k → ∃ v, cs.get (i + j) = some v) → cellsFrom cs k i = some (cellsL cs k i) := by
  intro k
  induction k with
  | zero => intro i _; rfl
  | succ k ih =>
    intro i h
    obtain ⟨v, hv⟩ := h 0 (by omega)
    rw [Nat.add_zero] at hv
    have e1 : Nat.add i 1 = i + 1 := rfl
    simp only [cellsFrom, cellsL, hv, e1]
    rw [ih (i + 1) (fun j hj => by have := h (j + 1) (by omega); rw [show i + 1 + j = i + (j + 1) by omega]; exact this)]
theorem growT_get {s : St} {sz n : Nat} {x : Value} {p : Tri Value × Nat} (hR : Rel P ρ (rdS s) w) (hq : sliceRow s sz x = some p) (hn : lenV x = some n) :
    ∃ old, sliceCells s sz x = some old ∧ old.length = n * sz ∧ ∀ (new : List Value) (i : Nat), i < (old ++ new).length → (growT p.1 p.2 (Nat.mul n sz) new).get i = (old ++ new)[i]? := by
  unfold sliceRow at hq
  split at hq
  · cases hq
    simp [lenV] at hn; subst hn
    refine ⟨[], rfl, by simp, fun new i hi => ?_⟩
    simp only [growT]
    rw [show Nat.mul 0 sz = 0 by simp, setCells_get]
    simp only [List.nil_append] at hi ⊢
    rw [if_pos (by omega)]; simp
  · rename_i a n' c'
    simp [lenV] at hn; subst hn
    split at hq
    · rename_i cs m e opn fz hsp hrow
      split at hq
      · rename_i hle
        cases hq
        have hle : a.off + n' * sz ≤ m := Nat.le_of_ble_eq_true hle
        obtain ⟨l, ob, q1, q2, q3⟩ := hR.obj _ _ hrow
        obtain ⟨c, fr, f0, f1, _⟩ := q3
        have hex : ∀ j, j < n' * sz → ∃ v, cs.get (a.off + j) = some v := by
          intro j hj
          obtain ⟨v, _, h, _⟩ := f1 (a.off + j) (by omega)
          exact ⟨v, h⟩
        have hcf := cellsL_get cs (n' * sz) a.off hex
        obtain ⟨hl, hg⟩ := cellsFrom_get _ _ _ _ hcf
        refine ⟨cellsL cs (n' * sz) a.off, ?_, hl, fun new i hi => ?_⟩
        · unfold sliceCells
          simp only [hsp, hrow]
          rw [show (a.off.add (n'.mul sz)).ble m = true from Nat.ble_eq_true_of_le hle]
          exact hcf
        · simp only [growT]
          split
          · rename_i h0
            rw [setCells_get]
            rw [h0] at hg
            have e1 : Nat.mul n' sz = n' * sz := rfl
            rw [e1]
            rw [List.length_append, hl] at hi
            by_cases hio : i < n' * sz
            · rw [if_neg (by omega), List.getElem?_append_left (by rw [hl]; exact hio), h0, ← hg i hio, Nat.zero_add]
            · rw [if_pos (by omega), List.getElem?_append_right (by rw [hl]; omega), hl]
          · rw [rowOf_get]; rfl
      · cases hq
    · cases hq
  · cases hq

theorem grow_sound {s s' : St} {t t2 ty : TypeId} {e : TypeId} {d2 : TypeDesc} {sz : Nat} {z : List Value} {y y' v : Value} {base : Option Addr} {n cap m : Nat} {new : List Value} {x : Value} {fz : Bool} {cap' : Nat} {base' : Option Addr}
    (hR : Rel P ρ (rdS s) w) (hF : ρ s.n = none) (hu : P.underlying t = some (.slice e)) (hu2 : P.underlying t2 = some d2) (hd2 : ∀ k, d2 ≠ .int k) (hz : elemZ P e = some (sz, z))
    (hx : VRel ρ x (.slice base' n cap')) (hxl : x = .slice base n cap) (hy : VRel ρ y y') (hm : lenV y = some m) (hnew : sliceCells s sz y = some new) (h : ¬ n + m ≤ cap') (hq : growF P e sz n m x new s fz = some (v, s')) :
    ∃ v' w' l, (Builtin.append_ #[t, t2] ty #[.slice base' n cap', y']).run P w = .ok v' w' ∧ Ext ρ (rdS s) w s.n s'.n (ρ.upd s.n l) (rdS s') w' ∧ Rel P (ρ.upd s.n l) (rdS s') w' ∧ VRel (ρ.upd s.n l) v v' ∧ StLe s s' ∧ s'.n = s.n + 1 := by
  unfold growF at hq
  split at hq
  · rename_i i pr hi hpr hle
    obtain ⟨old, hold, hol, hgt⟩ := growT_get hR hpr (n := n) (by subst hxl; rfl)
    have hle : n + m ≤ 100000 := Nat.le_of_ble_eq_true hle
    split at hq
    · rename_i hib
      have hib : i.bytes ≤ 100000 := Nat.le_of_ble_eq_true hib
      cases hq
      obtain ⟨hsz, hpos, zv, hzv, hzs, _⟩ := elemZ_two (ρ := ρ) hz
      obtain ⟨old', o1, o2⟩ := sliceCells_sound hR.drew hold hx (n := n) (by subst hxl; rfl)
      obtain ⟨new', n1, n2⟩ := sliceCells_sound hR.drew hnew hy hm
      obtain ⟨nc, g1, g2⟩ := append_grow (P := P) (w := w) (ty := ty) hu hu2 hd2 hsz (lenOf_rel hy hm) h hle hi hib hzv o1 n1
      have hnl : new.length = m * sz := by
        unfold sliceCells at hnew
        split at hnew
        · cases hnew; simp [lenV] at hm; subst hm; simp
        · simp [lenV] at hm; subst hm
          split at hnew
          · split at hnew
            · exact (cellsFrom_get _ _ _ _ hnew).1
            · cases hnew
          · cases hnew
        · simp [lenV] at hm; subst hm
          split at hnew
          · cases hnew; simp
          · cases hnew
        · cases hnew
      have hln := o2.append n2
      have hlen := hln.length
      have hcs : ((⟨old'⟩ : Array Value) ++ ⟨new'⟩ ++ Builtin.zeroCells zv.cells (nc - (n + m))).size = nc * sz := by
        rw [Array.size_append, zeroCells_eq, hzs]
        have : ((⟨old'⟩ : Array Value) ++ ⟨new'⟩).size = (n + m) * sz := by
          have : ((⟨old'⟩ : Array Value) ++ ⟨new'⟩).size = (old' ++ new').length := by simp
          rw [this, hlen, List.length_append, hol, hnl, Nat.add_mul]
        rw [this, ← Nat.add_mul]
        congr 1
        omega
      have hob : ObjRel P ρ ⟨w.heap.size, 0, nc, sz⟩ (.row (growT pr.1 pr.2 (Nat.mul n sz) new) (Nat.mul (n + m) sz) e true fz) (.cells ((⟨old'⟩ : Array Value) ++ ⟨new'⟩ ++ Builtin.zeroCells zv.cells (nc - (n + m))) e) := by
        refine ⟨_, (0, 0), rfl, fun i hi => ?_, fun i _ => by simp, fun _ => rfl, fun h => by simp at h, fun _ => ⟨?_, ?_, hsz⟩⟩
        · have hi : i < (n + m) * sz := hi
          have hil : i < (old ++ new).length := by rw [List.length_append, hol, hnl, ← Nat.add_mul]; exact hi
          obtain ⟨v', q1, q2⟩ := hln.get i (old ++ new)[i] (List.getElem?_eq_getElem hil)
          refine ⟨(old ++ new)[i], v', by rw [hgt new i hil, List.getElem?_eq_getElem hil], ?_, q2⟩
          rw [Nat.zero_add, Array.getElem?_append_left (by simp; rw [← List.length_append, hlen]; exact hil)]
          rw [← Array.getElem?_toList]
          simpa using q1
        · rw [hcs]; simp
        · exact Nat.mul_le_mul_right sz g1
      obtain ⟨x1, x2⟩ := ext_new (w' := w.drew.alloc (.cells ((⟨old'⟩ : Array Value) ++ ⟨new'⟩ ++ Builtin.zeroCells zv.cells (nc - (n + m))) e)) hR hF rfl rfl rfl rfl rfl hob
      refine ⟨_, _, ⟨w.heap.size, 0, nc, sz⟩, g2, ?_, ?_, ?_, StLe.new _ _, rfl⟩
      · rw [rdS_new]; exact x1
      · rw [rdS_new]; exact x2
      · exact .slo s.n 0 0 _ _ _ _ (Ren.upd_same _ _ _) (by simp) (by simp) g1 (.inl rfl)
    · cases hq
  · cases hq

theorem setCells_nil (i : Nat) (t : Tri Value) : setCells [] i t = t := rfl
theorem Hp.upd_self {h : Hp} {a : Nat} {o : AObj} (e : h a = some o) : Hp.upd h a o = h := by
  funext x; unfold Hp.upd; by_cases hx : x = a
  · subst hx; simp [e]
  · simp [hx]

/-- The row of a name that goes to another name. -/
theorem ext_move {h : Hp} {w' : World} {a n : Nat} {o o' : AObj} {ob : Obj} {l l' : Loc} (hR : Rel P ρ h w) (hn : ρ n = none) (ha : h a = some o) (hl : ρ a = some l) (hl' : l'.b = l.b)
    (hs : w'.heap.size = w.heap.size) (hb : w'.heap[l.b]? = some ob) (hh : ∀ k, k ≠ l.b → w'.heap[k]? = w.heap[k]?)
    (ho : w'.os = w.os) (ht : w'.tape = w.tape) (hu : w'.output = w.output) (hob : ObjRel P ρ l' o' ob) :
    Ext ρ h w n (n + 1) (ρ.upd n l') (fun x => if x = a then none else h.upd n o' x) w' ∧ Rel P (ρ.upd n l') (fun x => if x = a then none else h.upd n o' x) w' := by
  have hle := Ren.upd_le (l := l') hn
  have hna : n ≠ a := by intro e; subst e; rw [hl] at hn; cases hn
  constructor
  · refine ⟨hle, ?_, by omega, ho, ht, hu, ?_, ?_⟩
    · intro x lx e
      unfold Ren.upd at e
      by_cases hx : x = n
      · subst hx; exact .inr ⟨Nat.le_refl _, by omega⟩
      · rw [if_neg hx] at e; exact .inl e
    · intro x ox lx e e'
      by_cases hxa : x = a
      · rw [if_pos hxa] at e; cases e
      · rw [if_neg hxa] at e
        unfold Hp.upd at e; unfold Ren.upd at e'
        by_cases hx : x = n
        · subst hx; simp at e'; subst e'; exact .inr ⟨a, o, l, ha, hl, hl'.symm⟩
        · rw [if_neg hx] at e e'; exact .inr ⟨x, ox, lx, e, e', rfl⟩
    · intro k hk hf
      exact hh k (fun e => hf a o l ha hl e.symm)
  · refine ⟨?_, ?_, fun g hg => hle _ _ (hR.glob g hg)⟩
    · intro x ox e
      by_cases hxa : x = a
      · rw [if_pos hxa] at e; cases e
      · rw [if_neg hxa] at e
        unfold Hp.upd at e
        by_cases hx : x = n
        · subst hx; simp at e; subst e
          exact ⟨l', ob, Ren.upd_same _ _ _, by rw [hl']; exact hb, hob.mono hle⟩
        · rw [if_neg hx] at e
          obtain ⟨lx, obx, e1, e2, e3⟩ := hR.obj x ox e
          exact ⟨lx, obx, hle _ _ e1, by rw [hh _ (hR.inj x a ox o lx l e ha e1 hl hxa)]; exact e2, e3.mono hle⟩
    · intro x y ox oy lx ly e e' f f' hne
      by_cases hxa : x = a
      · rw [if_pos hxa] at e; cases e
      · by_cases hya : y = a
        · rw [if_pos hya] at e'; cases e'
        · rw [if_neg hxa] at e; rw [if_neg hya] at e'
          unfold Hp.upd at e e'; unfold Ren.upd at f f'
          by_cases hx : x = n
          · by_cases hy : y = n
            · omega
            · subst hx
              rw [if_neg hy] at e' f'
              simp at f; subst f
              rw [hl']; exact fun q => hR.inj y a oy o ly l e' ha f' hl hya q.symm
          · rw [if_neg hx] at e f
            by_cases hy : y = n
            · subst hy
              simp at f'; subst f'
              rw [hl']; exact hR.inj x a ox o lx l e ha f hl hxa
            · rw [if_neg hy] at e' f'
              exact hR.inj x y ox oy lx ly e e' f f' hne

theorem Ext.kill {h h' : Hp} {ρ' : Ren} {w' : World} {n n' : Nat} (a : Nat) (e : Ext ρ h w n n' ρ' h' w') : Ext ρ h w n n' ρ' (fun x => if x = a then none else h' x) w' :=
  ⟨e.le, e.new, e.size, e.os, e.tape, e.output, fun x o l q q' => by
    by_cases hx : x = a
    · rw [if_pos hx] at q; cases q
    · rw [if_neg hx] at q; exact e.own x o l q q', e.frame⟩
theorem Rel.kill {h : Hp} (a : Nat) (hR : Rel P ρ h w) : Rel P ρ (fun x => if x = a then none else h x) w :=
  hR.sub fun x o q => by
    by_cases hx : x = a
    · rw [if_pos hx] at q; cases q
    · rw [if_neg hx] at q; exact q

theorem appendF_sound {s s' : St} {t t2 ty : TypeId} {d2 : TypeDesc} {x y x' y' v : Value} (hR : Rel P ρ (rdS s) w) (hF : Fresh ρ s.n s'.n) (hu2 : P.underlying t2 = some d2) (hd2 : ∀ k, d2 ≠ .int k)
    (hx : VRel ρ x x') (hy : VRel ρ y y') (hq : appendF P t x y s = some (v, s')) :
    ∃ v' w' ρ', (Builtin.append_ #[t, t2] ty #[x', y']).run P w = .ok v' w' ∧ Ext ρ (rdS s) w s.n s'.n ρ' (rdS s') w' ∧ Rel P ρ' (rdS s') w' ∧ VRel ρ' v v' ∧ StLe s s' := by
  unfold appendF at hq
  split at hq
  · rename_i e hu
    split at hq
    · rename_i sz z m hz hm
      obtain ⟨hsz, hpos, _⟩ := elemZ_two (ρ := ρ) hz
      have hlen := lenOf_rel (w := w) (P := P) hy hm
      split at hq
      · rename_i new base n cap hnew
        obtain ⟨new', n1, n2⟩ := sliceCells_sound hR hnew hy hm
        have hnl : new.length = m * sz := by
          unfold sliceCells at hnew
          split at hnew
          · cases hnew; simp [lenV] at hm; subst hm; simp
          · simp [lenV] at hm; subst hm
            split at hnew
            · split at hnew
              · exact (cellsFrom_get _ _ _ _ hnew).1
              · cases hnew
            · cases hnew
          · simp [lenV] at hm; subst hm
            split at hnew
            · cases hnew; simp
            · cases hnew
          · cases hnew
        split at hq
        · rename_i hno
          split at hq
          · cases hq
          · rename_i hcl
            have hcl : cap < OPEN := Nat.le_of_ble_eq_true hcl
            split at hq
            · rename_i hfit
              have hfit : n + m ≤ cap := Nat.le_of_ble_eq_true hfit
              split at hq
              · cases hq
                cases hx
                exact ⟨_, w, ρ, append_none hu hu2 hd2 hsz hlen n1 hfit, Ext.refl _ _ _ _, hR, by
                  have : 0 + m = 0 := by omega
                  rw [this]; exact .sl0, StLe.refl _⟩
              · rename_i a
                split at hq
                · rename_i s1 hst
                  cases hq
                  cases hx with
                  | slo a0 o0 k lc p _ c' e1 e2 e3 e4 e5 => omega
                  | sl a0 o0 lc p _ _ e1 e2 e3 e4 =>
                    rcases e4 with e4 | e4
                    · subst e4
                      obtain ⟨w', r1, r2, r3⟩ := storeA_sound hR hst e1 n2
                      refine ⟨_, w', ρ, append_some hu hu2 hd2 hsz hlen n1 hfit (w' := w') ?_, r2, r3, .sl _ _ lc _ _ _ e1 e2 hfit (.inl rfl), storeA_le hst⟩
                      rw [add_none, Nat.add_assoc]; exact r1
                    · subst e4
                      have hn0 : n = 0 := by omega
                      have hm0 : m = 0 := by omega
                      subst hn0; subst hm0
                      have hnil : new = [] := by apply List.eq_nil_of_length_eq_zero; rw [hnl]; simp
                      subst hnil
                      cases n2
                      have hsame : Ext ρ (rdS s) w s.n s'.n ρ (rdS s') w ∧ Rel P ρ (rdS s') w := by
                        unfold storeA at hst
                        split at hst
                        · rename_i cs nn ee opn fz hsp hrow
                          split at hst
                          · cases hst
                            rw [rdS_put, setCells_nil]
                            have hrow' : rdS s a0 = some (.row cs nn ee opn fz) := hrow
                            show Ext ρ (rdS s) w s.n (s.n + 1) ρ (Hp.upd (rdS s) a0 _) w ∧ Rel P ρ (Hp.upd (rdS s) a0 _) w
                            rw [Hp.upd_self hrow']
                            exact ⟨⟨.refl _, fun _ _ q => .inl q, Nat.le_refl _, rfl, rfl, rfl, (Ext.refl ρ (rdS s) w 0).own, fun _ _ _ => rfl⟩, hR⟩
                          · cases hst
                        · cases hst
                      refine ⟨_, w, ρ, append_some hu hu2 hd2 hsz hlen n1 hfit (w' := w) (by simp [storeCells]), hsame.1, hsame.2, .sl _ _ lc _ _ _ e1 e2 hfit (.inr rfl), storeA_le hst⟩
                · cases hq
            · rename_i hfit
              have hfit : ¬ n + m ≤ cap := fun h => by rw [Nat.ble_eq_true_of_le (show Nat.add n m ≤ cap from h)] at hfit; cases hfit
              have hx0 : ∃ b', x' = .slice b' n cap := by
                cases hx with
                | sl0 => exact ⟨_, rfl⟩
                | slo a0 o0 k lc p _ c' e1 e2 e3 e4 e5 => omega
                | sl a0 o0 lc p _ _ e1 e2 e3 e4 => exact ⟨_, rfl⟩
              obtain ⟨b', rfl⟩ := hx0
              have hs1 : s'.n = s.n + 1 := by
                unfold growF at hq
                split at hq
                · split at hq
                  · cases hq; rfl
                  · cases hq
                · cases hq
              obtain ⟨v', w', l, r1, r2, r3, r4, r5, _⟩ := grow_sound (ty := ty) hR (hF s.n (Nat.le_refl _) (by omega)) hu hu2 hd2 hz hx rfl hy hm hnew hfit hq
              exact ⟨v', w', _, r1, r2, r3, r4, r5⟩
        · rename_i hop
          have hop : cap = OPEN + sz := Nat.eq_of_beq_eq_true hop
          split at hq
          · cases hq
            cases hx with
            | sl0 => omega
            | sl a0 o0 lc p _ _ e1 e2 e3 e4 => omega
            | slo a0 o0 k lc p _ c' e1 e2 e3 e4 e5 =>
              have hnil : new = [] := by apply List.eq_nil_of_length_eq_zero; rw [hnl]; simp
              subst hnil
              cases n2
              exact ⟨_, w, ρ, append_some hu hu2 hd2 hsz hlen n1 (by omega) (w' := w) (by simp [storeCells]), Ext.refl _ _ _ _, hR, by
                rw [Nat.add_zero]; exact .slo a0 o0 k lc p _ c' e1 e2 e3 e4 e5, StLe.refl _⟩
          · rename_i m1
            split at hq
            · rename_i a
              split at hq
              · rename_i cs nn e' fz hrow hone
                split at hq
                · rename_i hee
                  have hee : e = e' := Nat.eq_of_beq_eq_true hee
                  subst hee
                  split at hq
                  · rename_i v1 s1 hg
                    cases hq
                    have hs1 : s1.n = s.n + 1 := by
                      unfold growF at hg
                      split at hg
                      · split at hg
                        · cases hg; rfl
                        · cases hg
                      · cases hg
                    have hfn : ρ s.n = none := hF s.n (Nat.le_refl _) (by show s.n < s1.n; omega)
                    cases hx with
                    | sl a0 o0 lc p _ _ e1 e2 e3 e4 => omega
                    | slo a0 o0 k lc p _ c' e1 e2 e3 e4 e5 =>
                      by_cases hfit : n + (m1 + 1) ≤ c'
                      · have hpp : p = ⟨lc.b, lc.o + o0, none⟩ := by rcases e5 with h | h; exact h; omega
                        subst hpp
                        obtain ⟨lc', ob, q1, q2, q3⟩ := hR.obj _ _ hrow
                        have q1 : ρ a0 = some lc' := q1
                        rw [e1] at q1; cases q1
                        obtain ⟨c, fr, f0, f1, f2, f3, f4, f5⟩ := q3
                        obtain ⟨f6, f7, f8⟩ := f5 rfl
                        rw [hsz] at f8
                        have hzz : lc.z = sz := by cases f8; rfl
                        rw [f0] at q2
                        have hn2 := n2.length
                        have hnl : new.length = (m1 + 1) * sz := hnl
                        have hc1 : (n + (m1 + 1)) * sz ≤ c' * sz := Nat.mul_le_mul_right sz hfit
                        have hcsz : c.size = lc.o + o0 + c' * sz := by rw [f6, e2, hzz, ← e3, Nat.add_mul]; omega
                        obtain ⟨w', r1, r2, r3, r4, r5, r6, r7⟩ := storeCells_run (P := P) (o := lc.o + o0 + n * sz) (e := e) (fr := fr) new' 0 c w q2 (by have := Nat.add_mul n (m1 + 1) sz; omega) f2 (oneL_rel n2 hone)
                        rw [Nat.add_zero] at r3
                        -- what the new name reads
                        unfold growF at hg
                        split at hg
                        · rename_i ii pr hi hpr hle
                          obtain ⟨old, hold, _, hgt⟩ := growT_get hR hpr (n := n) rfl
                          split at hg
                          · cases hg
                            have hold2 : o0 + n * sz ≤ nn ∧ cellsFrom cs (n * sz) o0 = some old := by
                              unfold sliceCells at hold
                              simp only at hold
                              rw [hrow] at hold
                              simp only at hold
                              split at hold
                              · rename_i hle'
                                exact ⟨Nat.le_of_ble_eq_true hle', hold⟩
                              · cases hold
                            obtain ⟨h01, h02⟩ := hold2
                            obtain ⟨hol, hog⟩ := cellsFrom_get _ _ _ _ h02
                            obtain ⟨p1, p2⟩ := putL_get new' (lc.o + o0 + n * sz) c
                            have hob : ObjRel P ρ ⟨lc.b, lc.o + o0, c', sz⟩ (.row (growT pr.1 pr.2 (Nat.mul n sz) new) (Nat.mul (n + (m1 + 1)) sz) e true fz) (.cells (putL new' (lc.o + o0 + n * sz) c) e fr) := by
                              refine ⟨_, fr, rfl, fun i hi => ?_, by rw [p1]; exact f2, f3, fun h => by simp at h, fun _ => ⟨by rw [p1]; exact hcsz, hc1, hsz⟩⟩
                              have hi : i < (n + (m1 + 1)) * sz := hi
                              have hnm : (n + (m1 + 1)) * sz = n * sz + (m1 + 1) * sz := Nat.add_mul _ _ _
                              rw [hgt new i (by rw [List.length_append, hol, hnl]; omega), p2]
                              simp only
                              by_cases hio : i < n * sz
                              · obtain ⟨u, u', g1, g2, g3⟩ := f1 (o0 + i) (by omega)
                                rw [List.getElem?_append_left (by omega), if_neg (by omega)]
                                refine ⟨u, u', by rw [← hog i hio]; exact g1, ?_, g3⟩
                                rw [Nat.add_assoc]; exact g2
                              · have hin : i - n * sz < new.length := by rw [hnl]; omega
                                rw [List.getElem?_append_right (by omega), hol, if_pos (by omega)]
                                obtain ⟨u', g1, g2⟩ := n2.get (i - n * sz) new[i - n * sz] (List.getElem?_eq_getElem hin)
                                refine ⟨_, u', List.getElem?_eq_getElem hin, ?_, g2⟩
                                have : lc.o + o0 + i - (lc.o + o0 + n * sz) = i - n * sz := by omega
                                rw [this]; exact g1
                            obtain ⟨x1, x2⟩ := ext_move (l' := ⟨lc.b, lc.o + o0, c', sz⟩) hR hfn hrow e1 rfl r2 r3 r4 r5 r6 r7 hob
                            refine ⟨_, w', ρ.upd s.n ⟨lc.b, lc.o + o0, c', sz⟩, append_some hu hu2 hd2 hsz hlen n1 hfit (w' := w') (by rw [add_none]; exact r1), ?_, ?_, ?_, ?_⟩
                            · rw [rdS_kill, rdS_new]; exact x1
                            · rw [rdS_kill, rdS_new]; exact x2
                            · exact .slo s.n 0 0 ⟨lc.b, lc.o + o0, c', sz⟩ _ _ _ (Ren.upd_same _ _ _) (by simp) (by simp) hfit (.inl rfl)
                            · exact (StLe.new _ _).trans (StLe.kill _ _)
                          · cases hg
                        · cases hg
                      · obtain ⟨v', w', l, r1, r2, r3, r4, r5, _⟩ := grow_sound (ty := ty) hR hfn hu hu2 hd2 hz (.slo a0 o0 k lc p _ c' e1 e2 e3 e4 e5) rfl hy hm hnew hfit hg
                        exact ⟨v', w', _, r1, by rw [rdS_kill]; exact r2.kill _, by rw [rdS_kill]; exact r3.kill _, r4, r5.trans (StLe.kill _ _)⟩
                  · cases hq
                · cases hq
              · cases hq
            · cases hq
      · cases hq
    · cases hq
  · cases hq
end
end Go.Ev

/- The operations that may turn something. -/
namespace Go.Ev

def EnRel (ρ : Ren) : En → Ending → Prop
  | .ret v, .returned v' => VRel ρ v v'
  | .panic v, .panicked chain => ∃ v', chain = [{ v := v', recovered := false }] ∧ VRel ρ v v'
  | _, _ => False
/-- What holds behind a call. -/
def Post (P : Program) (ρ : Ren) (s : St) (w : World) (c : COut) (e : Ending) (w' : World) : Prop :=
  ∃ ρ', Ext ρ (rdS s) w s.n c.s.n ρ' (rdS c.s) w' ∧ Rel P ρ' (rdS c.s) w' ∧ EnRel ρ' c.e e
def EOk (P : Program) (ρ : Ren) (s : St) (w : World) (c : COut) : Result Next → Prop
  | .ok (.value v') w' => Post P ρ s w c (.returned v') w'
  | .ok .skip w' => Post P ρ s w c (.returned undef) w'
  | .ok (.enter f args) w' => CallsIn Fence.wide 0 P f args w' (Post P ρ s w c)
  | .ok (.round l f tmps asg body) w' => RoundIn Fence.wide 0 P l f tmps asg body w' (Post P ρ s w c)
  | .halt (.panic v') w' => Post P ρ s w c (.panicked [{ v := v', recovered := false }]) w'
  | _ => False
/-- What is asked of the evaluator's calls. -/
def CallOk (P : Program) (call : CallF) : Prop := ∀ tgt args s c, call tgt args s = some c → StLe s c.s ∧
  ∀ ρ w args', Rel P ρ (rdS s) w → Fresh ρ s.n c.s.n → LRel ρ args args' →
    match tgt with
    | .fn f => EOk P ρ s w c ((callFunc f ⟨args'⟩).run P w)
    | .round l => ∀ lc, ρ l = some lc → EOk P ρ s w c ((Instr.yield lc.b ⟨args'⟩).run P w)

section
variable {P : Program} {ρ : Ren} {w : World} {ev : Operand → Option Value} {ev' : Operand → Value} {o : Oper} {call : CallF} {s : St} {c : COut}

theorem undef_rel : VRel ρ undef undef := .tuple [] [] .nil

theorem e_store {t : TypeId} {a x : Operand} (hop : o.op = .store t a x) (hq : effOp P call ev s o = some c) : StLe s c.s ∧
    ∀ ρ w (ev' : Operand → Value), Rel P ρ (rdS s) w → Fresh ρ s.n c.s.n → (∀ v, ev a = some v → VRel ρ v (ev' a)) → (∀ v, ev x = some v → VRel ρ v (ev' x)) → EOk P ρ s w c ((execOp ev' o).run P w) := by
  simp only [effOp, hop] at hq
  split at hq
  · rename_i a0 v n hea hex hsz
    split at hq
    · rename_i hlen
      have hlen : (cellsV v).length = n := Nat.eq_of_beq_eq_true hlen
      split at hq
      · rename_i s1 hst
        cases hq
        refine ⟨storeA_le hst, fun ρ w ev' hR hF ha hx => ?_⟩
        have h1 := ha _ hea
        have h2 := hx _ hex
        obtain ⟨ab, ao, asp⟩ := a0
        cases asp with
        | some _ => simp [storeA] at hst
        | none =>
          obtain ⟨lc, e1, e2⟩ : ∃ lc, ρ ab = some lc ∧ ev' a = .pointer (some ⟨lc.b, lc.o + ao, none⟩) := by
            generalize ev' a = a' at h1
            cases h1 with
            | ptr _ _ l e => exact ⟨l, e, rfl⟩
          have hcl := cellsV_rel h2
          obtain ⟨w', r1, r2, r3⟩ := storeA_sound hR hst e1 hcl
          have hsz' : (ev' x).cells.size = n := by rw [← hlen, ← hcl.length]; simp
          have hrun : (execOp ev' o).run P w = .ok .skip w' := by
            simp [execOp, hop, Instr.storeAt, Instr.sureAddr, e2, storeVar, run_size hsz, hsz', r1]
          rw [hrun]
          exact ⟨ρ, r2, r3, undef_rel⟩
      · cases hq
    · cases hq
  · cases hq

theorem setE_rel {ρ : Ren} : ∀ {es es' : List MapEntry}, ELRel ρ es es' → ∀ (i : Nat) (k k' v v' : Value), VRel ρ k k' → VRel ρ v v' → ELRel ρ (setE k v i es) (es'.modify i fun e => { e with key := k', val := v' }) := by
  intro es es' h
  induction h with
  | nil => intro i k k' v v' _ _; cases i <;> exact .nil
  | cons e e' l l' he hl ih =>
    intro i k k' v v' hk hv
    cases i with
    | zero => simp only [setE, List.modify_zero_cons]; exact .cons _ _ _ _ ⟨hk, hv, he.2.2⟩ hl
    | succ i => simp only [setE, List.modify_succ_cons]; exact .cons _ _ _ _ he (ih i k k' v v' hk hv)
theorem ELRel.append {ρ : Ren} {a a' b b' : List MapEntry} (h : ELRel ρ a a') (h' : ELRel ρ b b') : ELRel ρ (a ++ b) (a' ++ b') := by
  induction h with
  | nil => exact h'
  | cons e e' l l' he _ ih => exact .cons _ _ _ _ he ih
theorem beqBA_eq {a b : ByteArray} (h : (a == b) = true) : a = b := by
  rw [beqBA] at h
  have h : a.data.toList = b.data.toList := by simpa using h
  exact ByteArray.ext (Array.ext' h)
theorem beqBA_self (a : ByteArray) : (a == a) = true := by rw [beqBA]; simp
theorem sameK_eq {t : TypeId} {k k' : Value} (hk : keyOk P t k = true) (hs : sameK k k' = some true) : k' = k := by
  rcases keyOk_eq hk with ⟨kd, n, rfl, _⟩ | ⟨s, rfl, _⟩ | ⟨b, rfl, _⟩
  · cases k' with
    | int kd' m =>
      simp only [sameK] at hs
      split at hs
      · rename_i hkk
        have hkk := eqK_eq.1 hkk
        have hs := Option.some.inj hs
        rw [eqI_eq, decide_eq_true_iff] at hs
        rw [hkk, hs]
      · cases hs
    | _ => simp [sameK] at hs
  · cases k' with
    | string s' =>
      simp only [sameK] at hs
      have hs := Option.some.inj hs
      rw [eqBytes_eq, ← beqBA] at hs
      rw [beqBA_eq hs]
    | _ => simp [sameK] at hs
  · cases k' with
    | bool b' =>
      simp only [sameK] at hs
      have hs := Option.some.inj hs
      cases b <;> cases b' <;> first | rfl | (simp [notB] at hs)
    | _ => simp [sameK] at hs
theorem sameBits_self {t : TypeId} {k : Value} (hk : keyOk P t k = true) (n : Nat) : Instr.sameBits n k k = true := by
  rcases keyOk_eq hk with ⟨kd, m, rfl, _⟩ | ⟨s, rfl, _⟩ | ⟨b, rfl, _⟩ <;> simp [Instr.sameBits, beqBA_self]
theorem e_mapUpdate {t : TypeId} {m k x : Operand} (hop : o.op = .mapUpdate t m k x) (hq : effOp P call ev s o = some c) : StLe s c.s ∧
    ∀ ρ w (ev' : Operand → Value), Rel P ρ (rdS s) w → Fresh ρ s.n c.s.n → (∀ v, ev m = some v → VRel ρ v (ev' m)) → (∀ v, ev k = some v → VRel ρ v (ev' k)) → (∀ v, ev x = some v → VRel ρ v (ev' x)) → EOk P ρ s w c ((execOp ev' o).run P w) := by
  simp only [effOp, hop] at hq
  split at hq
  · rename_i kt et r key v hm hem hek hex
    have hu := mapT_eq hm
    split at hq
    · rename_i es clock hkey hrow
      obtain ⟨d, hd⟩ : ∃ d, P.underlying kt = some d := by
        rcases keyOk_eq hkey with ⟨_, _, _, _, hu'⟩ | ⟨_, _, hu'⟩ | ⟨_, _, hu'⟩ <;> exact ⟨_, hu'⟩
      have pre : ∀ ρ w (ev' : Operand → Value), Rel P ρ (rdS s) w → (∀ v, ev m = some v → VRel ρ v (ev' m)) → (∀ v, ev k = some v → VRel ρ v (ev' k)) →
          ∃ lc es', ρ r = some lc ∧ ev' m = .map (some lc.b) ∧ w.heap[lc.b]? = some (.map ⟨es'⟩ clock) ∧ ELRel ρ es es' ∧ ev' k = key := by
        intro ρ w ev' hR h1 h2
        have h1 := h1 _ hem
        have h2 := key_rel hkey (h2 _ hek)
        generalize ev' m = m' at h1 ⊢
        cases h1 with
        | map _ l e =>
          obtain ⟨l', ob, q1, q2, es', q3, q4⟩ := hR.obj _ _ hrow
          rw [e] at q1; cases q1
          exact ⟨l, es', e, rfl, by rw [q2, q3], q4, h2⟩
      have put : ∀ ρ w lc es' es2 es2' cl2, Rel P ρ (rdS s) w → ρ r = some lc → w.heap[lc.b]? = some (.map ⟨es'⟩ clock) → ELRel ρ es2 es2' →
          Ext ρ (rdS s) w s.n (s.n + 1) ρ (rdS (s.put r (.map es2 cl2))) { w with heap := w.heap.setIfInBounds lc.b (.map ⟨es2'⟩ cl2) } ∧ Rel P ρ (rdS (s.put r (.map es2 cl2))) { w with heap := w.heap.setIfInBounds lc.b (.map ⟨es2'⟩ cl2) } := by
        intro ρ w lc es' es2 es2' cl2 hR hl hb he
        have hlt : lc.b < w.heap.size := by
          rcases Nat.lt_or_ge lc.b w.heap.size with h | h
          · exact h
          · rw [Array.getElem?_eq_none h] at hb; cases hb
        rw [rdS_put]
        exact ext_put (w' := { w with heap := w.heap.setIfInBounds lc.b (.map ⟨es2'⟩ cl2) }) hR hrow hl (by simp) (by simp [hlt]) (fun k hk => by simp [Array.getElem?_setIfInBounds, Ne.symm hk]) rfl rfl rfl (ob := .map ⟨es2'⟩ cl2) (o' := .map es2 cl2) ⟨es2', rfl, he⟩ _
      split at hq
      · rename_i i v0 hf
        cases hq
        refine ⟨StLe.put _ _ _ ⟨_, by assumption⟩, fun ρ w ev' hR hF h1 h2 h3 => ?_⟩
        obtain ⟨lc, es', p1, p2, p3, p4, p5⟩ := pre ρ w ev' hR h1 h2
        have hkk : VRel ρ key (ev' k) := h2 _ hek
        rw [p5] at hkk
        obtain ⟨r', f1, f2⟩ := findK_now hkey hd p4 hf
        cases r' with
        | none => exact f2.elim
        | some p =>
          obtain ⟨j', v'⟩ := p
          obtain ⟨q1, q2, _, ee, ee', q3, q4, q5, q6, q7⟩ := f2
          subst q1
          obtain ⟨x1, x2⟩ := put ρ w lc es' (setE key v i es) (es'.modify i fun e => { e with key := key, val := ev' x }) clock hR p1 p3 (setE_rel p4 i key key v (ev' x) hkk (h3 _ hex))
          have hg : (getObj lc.b).run P w = .ok (.map ⟨es'⟩ clock) w := by simp [getObj, Sem.run, p3]
          have hs : ∀ o2, (setObj lc.b o2).run P w = .ok () { w with heap := w.heap.setIfInBounds lc.b o2 } := by intro o2; simp [setObj, Sem.run, p3]
          have hkey' : (((⟨es'⟩ : Array MapEntry)[i]?).map (·.key)).getD key = ee'.key := by
            have : (⟨es'⟩ : Array MapEntry)[i]? = some ee' := by simpa using q4
            rw [this]; rfl
          have hst : (Instr.keyThatStays ee'.key key).run P w = .ok key w := by
            have hek2 : ee.key = key := sameK_eq hkey q5
            have hek3 : ee'.key = key := key_rel hkey (by rw [← hek2]; exact q6.1)
            rw [hek3]
            simp [Instr.keyThatStays, sameBits_self hkey]
          have hrun : (execOp ev' o).run P w = .ok .skip { w with heap := w.heap.setIfInBounds lc.b (.map ⟨es'.modify i fun e => { e with key := key, val := ev' x }⟩ clock) } := by
            simp only [execOp, hop, Instr.mapUpdate, Sem.run_bind, run_und hu, Result.andThen_ok, p2, hg, p5, checkKey_run hkey, Instr.findKey, run_und hd, f1, Sem.run_pure, hkey', hst, hs]
            have hmod : (⟨es'⟩ : Array MapEntry).modify i (fun e => { e with key := key, val := ev' x }) = ⟨es'.modify i fun e => { e with key := key, val := ev' x }⟩ := by apply Array.ext'; simp
            rw [hmod]
          rw [hrun]
          exact ⟨ρ, x1, x2, undef_rel⟩
      · rename_i hf
        cases hq
        refine ⟨StLe.put _ _ _ ⟨_, by assumption⟩, fun ρ w ev' hR hF h1 h2 h3 => ?_⟩
        obtain ⟨lc, es', p1, p2, p3, p4, p5⟩ := pre ρ w ev' hR h1 h2
        have hkk : VRel ρ key (ev' k) := h2 _ hek
        rw [p5] at hkk
        obtain ⟨r', f1, f2⟩ := findK_now hkey hd p4 hf
        cases r' with
        | some p => exact f2.elim
        | none =>
          obtain ⟨x1, x2⟩ := put ρ w lc es' (es ++ [⟨key, v, clock⟩]) (es' ++ [⟨key, ev' x, clock⟩]) (clock + 1) hR p1 p3 (p4.append (.cons _ _ _ _ ⟨hkk, h3 _ hex, rfl⟩ .nil))
          have hg : (getObj lc.b).run P w = .ok (.map ⟨es'⟩ clock) w := by simp [getObj, Sem.run, p3]
          have hs : ∀ o2, (setObj lc.b o2).run P w = .ok () { w with heap := w.heap.setIfInBounds lc.b o2 } := by intro o2; simp [setObj, Sem.run, p3]
          have hrun : (execOp ev' o).run P w = .ok .skip { w with heap := w.heap.setIfInBounds lc.b (.map ⟨es' ++ [⟨key, ev' x, clock⟩]⟩ (clock + 1)) } := by
            simp only [execOp, hop, Instr.mapUpdate, Sem.run_bind, run_und hu, Result.andThen_ok, p2, hg, p5, checkKey_run hkey, Instr.findKey, run_und hd, f1, Sem.run_pure, hs]
            have hmod : (⟨es'⟩ : Array MapEntry).push ⟨key, ev' x, clock⟩ = ⟨es' ++ [⟨key, ev' x, clock⟩]⟩ := by apply Array.ext'; simp
            rw [hmod]
          rw [hrun]
          exact ⟨ρ, x1, x2, undef_rel⟩
      · cases hq
    · cases hq
  · cases hq

theorem e_next {x : Operand} {b : Bool} (hop : o.op = .next x b) (hq : effOp P call ev s o = some c) : StLe s c.s ∧
    ∀ ρ w (ev' : Operand → Value), Rel P ρ (rdS s) w → Fresh ρ s.n c.s.n → (∀ v, ev x = some v → VRel ρ v (ev' x)) → EOk P ρ s w c ((execOp ev' o).run P w) := by
  cases b with
  | false => simp [effOp, hop] at hq
  | true =>
    simp only [effOp, hop] at hq
    split at hq
    · rename_i r hex
      split at hq
      · rename_i sb pos hrow
        have pre : ∀ ρ w (ev' : Operand → Value), Rel P ρ (rdS s) w → (∀ v, ev x = some v → VRel ρ v (ev' x)) →
            ∃ lc, ρ r = some lc ∧ lc.o = 0 ∧ ev' x = .pointer (some ⟨lc.b, 0, none⟩) ∧ w.heap[lc.b]? = some (.stringIter sb pos) := by
          intro ρ w ev' hR h1
          have h1 := h1 _ hex
          generalize ev' x = y at h1 ⊢
          cases h1 with
          | ptr _ _ l e =>
            obtain ⟨l', ob, q1, q2, q3, q4⟩ := hR.obj _ _ hrow
            rw [e] at q1; cases q1
            exact ⟨l, e, q3, by rw [q3], by rw [q2, q4]⟩
        split at hq
        · rename_i hlt
          have hlt : pos < sb.data.toList.length := Nat.le_of_ble_eq_true hlt
          split at hq
          · rename_i ch hch
            rw [nth_eq] at hch
            split at hq
            · rename_i h128
              have h128 : ch.toNat < 128 := Nat.le_of_ble_eq_true h128
              cases hq
              refine ⟨StLe.put _ _ _ ⟨_, by assumption⟩, fun ρ w ev' hR hF h1 => ?_⟩
              obtain ⟨lc, p1, p2, p3, p4⟩ := pre ρ w ev' hR h1
              have hlt2 : pos < sb.size := hlt
              have hget : sb.get! pos = ch := by
                have h1 : sb.data.toList[pos]? = some sb.data.toList[pos] := List.getElem?_eq_getElem hlt
                rw [h1] at hch
                have hch := Option.some.inj hch
                rw [← hch]
                show sb.data[pos]! = _
                rw [getElem!_pos sb.data pos (by simpa using hlt)]
                simp
              have hdec : Utf8.decode sb pos = (ch.toNat, 1) := by
                simp [Utf8.decode, hget, h128]
              have hg : (getObj lc.b).run P w = .ok (.stringIter sb pos) w := by simp [getObj, Sem.run, p4]
              have hs : ∀ o2, (setObj lc.b o2).run P w = .ok () { w with heap := w.heap.setIfInBounds lc.b o2 } := by intro o2; simp [setObj, Sem.run, p4]
              have hblt : lc.b < w.heap.size := by
                rcases Nat.lt_or_ge lc.b w.heap.size with h | h
                · exact h
                · rw [Array.getElem?_eq_none h] at p4; cases p4
              have hrun : (execOp ev' o).run P w = .ok (.value (.tuple #[.bool true, .int .i64 (.ofNat pos), .int .i32 (.ofNat ch.toNat)])) { w with heap := w.heap.setIfInBounds lc.b (.stringIter sb (pos + 1)) } := by
                simp [execOp, hop, Instr.next, p3, hg, hlt2, hdec, hs, goInt]
              rw [hrun]
              obtain ⟨x1, x2⟩ := ext_put (w' := { w with heap := w.heap.setIfInBounds lc.b (.stringIter sb (pos + 1)) }) hR hrow p1 (by simp) (by simp [hblt]) (fun k hk => by simp [Array.getElem?_setIfInBounds, Ne.symm hk]) rfl rfl rfl (ob := .stringIter sb (pos + 1)) (o' := .iter sb (pos + 1)) ⟨p2, rfl⟩ (s.n + 1)
              refine ⟨ρ, ?_, ?_, .tuple _ _ (.cons _ _ _ _ (.bool _) (.cons _ _ _ _ (.int _ _) (.cons _ _ _ _ (.int _ _) .nil)))⟩
              · show Ext ρ (rdS s) w s.n (s.n + 1) ρ (rdS (s.put r (.iter sb (pos + 1)))) _
                rw [rdS_put]; exact x1
              · show Rel P ρ (rdS (s.put r (.iter sb (pos + 1)))) _
                rw [rdS_put]; exact x2
            · cases hq
          · cases hq
        · rename_i hlt
          cases hq
          refine ⟨StLe.refl _, fun ρ w ev' hR hF h1 => ?_⟩
          obtain ⟨lc, p1, p2, p3, p4⟩ := pre ρ w ev' hR h1
          have hg : (getObj lc.b).run P w = .ok (.stringIter sb pos) w := by simp [getObj, Sem.run, p4]
          have hlt2 : ¬ pos < sb.size := fun h => by
            rw [Nat.ble_eq_true_of_le (show Nat.succ pos ≤ sb.data.toList.length from h)] at hlt; cases hlt
          have hrun : (execOp ev' o).run P w = .ok (.value (.tuple #[.bool false])) w := by
            simp [execOp, hop, Instr.next, p3, hg, hlt2]
          rw [hrun]
          exact ⟨ρ, Ext.refl _ _ _ _, hR, .tuple _ _ (.cons _ _ _ _ (.bool _) .nil)⟩
      · cases hq
    · cases hq
theorem e_panic {x : Operand} (hop : o.op = .panic x) (hq : effOp P call ev s o = some c) : StLe s c.s ∧
    ∀ ρ w (ev' : Operand → Value), Rel P ρ (rdS s) w → Fresh ρ s.n c.s.n → (∀ v, ev x = some v → VRel ρ v (ev' x)) → EOk P ρ s w c ((execOp ev' o).run P w) := by
  simp only [effOp, hop] at hq
  split at hq
  · rename_i t v hex
    cases hq
    refine ⟨StLe.refl _, fun ρ w ev' hR hF h1 => ?_⟩
    have h1 := h1 _ hex
    have hrun : ∃ v', ev' x = .iface t v' ∧ VRel ρ v v' := by
      generalize ev' x = y at h1
      cases h1 with
      | iface _ _ v' e => exact ⟨v', rfl, e⟩
    obtain ⟨v', e1, e2⟩ := hrun
    have hr : (execOp ev' o).run P w = .halt (.panic (.iface t v')) w := by
      simp [execOp, hop, Instr.panic, e1]
    rw [hr]
    exact ⟨ρ, Ext.refl _ _ _ _, hR, _, rfl, .iface _ _ _ e2⟩
  · cases hq
theorem Ext.more {h h' : Hp} {ρ' : Ren} {w' : World} {n n' m : Nat} (e : Ext ρ h w n n' ρ' h' w') (hm : n' ≤ m) : Ext ρ h w n m ρ' h' w' :=
  ⟨e.le, fun a l q => by rcases e.new a l q with h | h; exact .inl h; exact .inr ⟨h.1, by omega⟩, e.size, e.os, e.tape, e.output, e.own, e.frame⟩

theorem invF_sound (hc : CallOk P call) {f : Value} {args : List Value} (hq : invF P call f args s = some c) : StLe s c.s ∧
    ∀ ρ w f' args', Rel P ρ (rdS s) w → Fresh ρ s.n c.s.n → VRel ρ f f' → LRel ρ args args' →
      EOk P ρ s w c ((do let d ← Deferred.ofValue f' ⟨args'⟩; invoke d.target d.args : Sem Next).run P w) := by
  unfold invF at hq
  split at hq
  · rename_i g first cap
    obtain ⟨h1, h2⟩ := hc _ _ _ _ hq
    refine ⟨h1, fun ρ w f' args' hR hF hf ha => ?_⟩
    cases hf with
    | fn _ xs ys xs' ys' e1 e2 =>
      have := h2 ρ w (xs' ++ args' ++ ys') hR hF ((e1.append ha).append e2)
      simp only at this
      have he : (do let d ← Deferred.ofValue (.func (.func g) ⟨xs'⟩ ⟨ys'⟩) ⟨args'⟩; invoke d.target d.args : Sem Next) = callFunc g ⟨xs' ++ args' ++ ys'⟩ := by
        simp [Deferred.ofValue, invoke]
      rw [he]; exact this
  · rename_i l
    obtain ⟨h1, h2⟩ := hc _ _ _ _ hq
    refine ⟨h1, fun ρ w f' args' hR hF hf ha => ?_⟩
    cases hf with
    | yield _ lc e =>
      have := h2 ρ w args' hR hF ha lc e
      have he : (do let d ← Deferred.ofValue (.func (.yield lc.b) ⟨[]⟩ ⟨[]⟩) ⟨args'⟩; invoke d.target d.args : Sem Next) = Instr.yield lc.b ⟨args'⟩ := by
        simp [Deferred.ofValue, invoke]
      rw [he]; exact this
  · cases hq

theorem loadBytes_run : ∀ (l : List Value) (b : List UInt8) (a : Addr) (acc : ByteArray), bytesOf l = some b → a.spot = none → (∀ (j : Nat) v, l[j]? = some v → w.cell? ⟨a.block, a.off + j, none⟩ = some v) →
    (loadBytes a acc l.length).run P w = .ok ⟨⟨acc.data.toList ++ b⟩⟩ w := by
  intro l
  induction l with
  | nil => intro b a acc hb _ _; simp [bytesOf] at hb; subst hb; simp [loadBytes]
  | cons v l ih =>
    intro b a acc hb hs hc
    unfold bytesOf at hb
    split at hb
    · rename_i heq; cases heq
    · rename_i n l0 heq
      cases heq
      split at hb
      · rename_i r hr
        cases hb
        have h0 := hc 0 _ (by simp; rfl)
        obtain ⟨ab, ao, asp⟩ := a
        simp only at hs; subst hs
        simp only [Nat.add_zero] at h0
        simp only [List.length_cons, loadBytes, Sem.run_bind, run_load, h0, Result.andThen_ok, add_none]
        rw [ih r ⟨ab, ao + 1, none⟩ _ hr rfl (fun j v hj => by
          have := hc (j + 1) v (by simpa using hj)
          simp only at this ⊢
          rw [Nat.add_assoc, Nat.add_comm 1 j]; exact this)]
        simp [Int.toNat]
      · cases hb
    · cases hb

/-- A block that is turned and whose name goes. -/
theorem ext_drop {h : Hp} {w w' : World} {a n : Nat} {o : AObj} {l : Loc} (hR : Rel P ρ h w) (ha : h a = some o) (hl : ρ a = some l)
    (hs : w'.heap.size = w.heap.size) (hh : ∀ k, k ≠ l.b → w'.heap[k]? = w.heap[k]?)
    (ho : w'.os = w.os) (ht : w'.tape = w.tape) (hu : w'.output = w.output) (n' : Nat) :
    Ext ρ h w n n' ρ (fun x => if x = a then none else h x) w' ∧ Rel P ρ (fun x => if x = a then none else h x) w' := by
  have hsub : ∀ x ox, (fun x => if x = a then none else h x) x = some ox → x ≠ a ∧ h x = some ox := by
    intro x ox e
    by_cases hx : x = a
    · simp [hx] at e
    · exact ⟨hx, by simpa [hx] using e⟩
  refine ⟨⟨.refl ρ, fun _ _ e => .inl e, by omega, ho, ht, hu, fun x ox lx e e' => .inr ⟨x, ox, lx, (hsub x ox e).2, e', rfl⟩, fun k hk hf => hh k (fun e => hf a o l ha hl e.symm)⟩, ?_, ?_, hR.glob⟩
  · intro x ox e
    obtain ⟨h1, h2⟩ := hsub x ox e
    obtain ⟨lx, obx, e1, e2, e3⟩ := hR.obj x ox h2
    exact ⟨lx, obx, e1, by rw [hh _ (hR.inj x a ox o lx l h2 ha e1 hl h1)]; exact e2, e3⟩
  · intro x y ox oy lx ly e e'
    exact hR.inj x y ox oy lx ly (hsub x ox e).2 (hsub y oy e').2

theorem depth_pos (P : Program) : ∃ d, P.depth = d + 1 := ⟨_, rfl⟩
/-- Bytes lie side by side in a row of bytes. -/
theorem liesAt_row {e pe : TypeId} {count off n : Nat} (h1 : P.underlying e = some (.int .u8)) (h2 : P.underlying pe = some (.int .u8)) (hc : P.cellsOf e = 1) (hn : off + n ≤ count) :
    liesAt P P.depth e count off pe n = true := by
  obtain ⟨d, hd⟩ := depth_pos P
  rw [hd]
  simp only [liesAt, Bool.or_eq_true]
  left
  rw [hd]
  have hs : sameLayout P (d + 1) e pe = true := by
    have : (IntKind.u8 == IntKind.u8) = true := rfl
    simp [sameLayout, h1, h2, this]
  simp only [rowAt, hc, hs]
  simp [Nat.mod_one, hn]

theorem us_none (ts : Array TypeId) (t0 : TypeId) (hts : ts[0]? = some t0) (ty : TypeId) (k : IntKind) : (Builtin.unsafeString_ ts ty ⟨[.pointer none, .int k (Int.ofNat 0)]⟩).run P w = .ok (.string .empty) w := by
  have h1 : ¬ ((Int.ofNat 0) > IntKind.i64.max) := by decide
  change (bind (asInt (.int k (Int.ofNat 0))) _ : Sem Value).run P w = _
  simp [asInt, asIntOf, hts]
theorem us_some (ts : Array TypeId) (pt pe e : TypeId) (hts : ts[0]? = some pt) (hp : P.underlying pt = some (.pointer pe)) (ty : TypeId) (k : IntKind) (a : Addr) (n cells : Nat) (h0 : 1 ≤ n) (hn : n ≤ 1000000)
    (hsh : w.shape? a.block = some (e, cells)) (hlies : liesAt P P.depth e (cells / P.cellsOf e) a.off pe n = true) {b : ByteArray} (hlb : (loadBytes a .empty n).run P w = .ok b w) :
    (Builtin.unsafeString_ ts ty ⟨[.pointer (some a), .int k (Int.ofNat n)]⟩).run P w = .ok (.string b) (w.freeze a n) := by
  have hmax : IntKind.i64.max = 9223372036854775807 := rfl
  have h63' : ¬ (9223372036854775807 : Int) < (n : Int) := by omega
  have hneg : ¬ (n : Int) < 0 := by omega
  have hz : ¬ n = 0 := by omega
  change (bind (asInt (.int k (Int.ofNat n))) _ : Sem Value).run P w = _
  simp [asInt, asIntOf, hts, hmax, h63', hneg, hz, variablesAt, hsh, elemOf, run_und hp, hlies, hlb]

theorem bytesOf_int : ∀ (l : List Value) (b : List UInt8), bytesOf l = some b → ∀ (j : Nat) v, l[j]? = some v → ∃ m, v = .int .u8 (.ofNat m) := by
  intro l
  induction l with
  | nil => intro b _ j v h; simp at h
  | cons x l ih =>
    intro b hb j v h
    unfold bytesOf at hb
    split at hb
    · rename_i heq; cases heq
    · rename_i n l0 heq
      cases heq
      split at hb
      · rename_i r hr
        cases j with
        | zero => simp at h; subst h; exact ⟨n, rfl⟩
        | succ j => exact ih r hr j v (by simpa using h)
      · cases hb
    · cases hb
theorem growF_le {e : TypeId} {sz n m : Nat} {x v : Value} {new : List Value} {s s' : St} {fz : Bool} (h : growF P e sz n m x new s fz = some (v, s')) : StLe s s' := by
  unfold growF at h
  split at h
  · split at h
    · cases h; exact StLe.new _ _
    · cases h
  · cases h
theorem appendF_le {t : TypeId} {x y v : Value} {s s' : St} (h : appendF P t x y s = some (v, s')) : StLe s s' := by
  unfold appendF at h
  repeat' split at h
  all_goals first
    | cases h; done
    | (cases h; exact StLe.refl _)
    | exact growF_le h
    | (rename_i hst; cases h; exact storeA_le hst)
    | (rename_i hst; cases h; exact (growF_le hst).trans (StLe.kill _ _))

theorem e_call {cc : Call} (hcall : CallOk P call) (hop : o.op = .call cc) (hq : effOp P call ev s o = some c) : StLe s c.s ∧
    ∀ ρ w (ev' : Operand → Value), Rel P ρ (rdS s) w → Fresh ρ s.n c.s.n → (∀ x ∈ cc.operands, ∀ v, ev x = some v → VRel ρ v (ev' x)) → EOk P ρ s w c ((execOp ev' o).run P w) := by
  simp only [effOp, hop] at hq
  have hargs : ∀ ev' : Operand → Value, cc.args.map ev' = ⟨cc.args.toList.map ev'⟩ := by intro ev'; apply Array.ext'; simp
  split at hq
  · rename_i f hc
    split at hq
    · rename_i fv l hf hl
      obtain ⟨h1, h2⟩ := invF_sound hcall hq
      refine ⟨h1, fun ρ w ev' hR hF hx => ?_⟩
      have hfr := hx f (by simp [Call.operands, hc]) fv hf
      have hlr := opvs_rel (ρ := ρ) (ev' := ev') _ _ (fun x hxm => hx x (by simp [Call.operands]; right; simpa using hxm)) hl
      have := h2 ρ w (ev' f) _ hR hF hfr hlr
      have he : (execOp ev' o) = (do let d ← Deferred.ofValue (ev' f) ⟨cc.args.toList.map ev'⟩; invoke d.target d.args : Sem Next) := by
        simp only [execOp, hop, resolve, hc, hargs]
      rw [he]; exact this
    · cases hq
  · rename_i hc
    split at hq
    · rename_i k hvs
      split at hq
      case h_2 => cases hq
      rename_i t0 tl0 hat0
      cases hq
      refine ⟨StLe.refl _, fun ρ w ev' hR hF hx => ?_⟩
      have hl := opvs_rel (ρ := ρ) (ev' := ev') _ _ (fun x hxm => hx x (by simp [Call.operands]; right; simpa using hxm)) hvs
      have ha := hargs ev'
      generalize hg : List.map ev' cc.args.toList = l' at hl ha
      cases hl with
      | cons _ v' _ l2 e1 e2 =>
        cases e2 with
        | cons _ v2 _ l3 e2 e3 =>
          cases e3
          cases e1
          cases e2
          have hrun : (execOp ev' o).run P w = .ok (.value (.string .empty)) w := by
            have ht0 : cc.argTypes[0]? = some t0 := by
              have : cc.argTypes = ⟨t0 :: tl0⟩ := by apply Array.ext'; simpa using hat0
              rw [this]; rfl
            simp only [execOp, hop, resolve, hc, ha, Sem.run_bind, Sem.run_pure, Result.andThen_ok, invoke, builtin]
            rw [us_none _ t0 ht0]; rfl
          rw [hrun]
          exact ⟨ρ, Ext.refl _ _ _ _, hR, .string _⟩
    · rename_i a k n hvs
      split at hq
      · cases hq
      · rename_i hn
        obtain ⟨hn, hn2⟩ := andB_eq.1 hn
        have hn : 1 ≤ n := Nat.le_of_ble_eq_true hn
        have hn2 : n ≤ 1000000 := Nat.le_of_ble_eq_true hn2
        split at hq
        · rename_i cs m e opn fz pt t2 hsp hrow hat
          split at hq
          · rename_i pe l hue hup hle hl
            have hle : a.off + n ≤ m := Nat.le_of_ble_eq_true hle
            split at hq
            · rename_i b hupe hb hse
              cases hq
              refine ⟨StLe.kill _ _, fun ρ w ev' hR hF hx => ?_⟩
              have hlr := opvs_rel (ρ := ρ) (ev' := ev') _ _ (fun x hxm => hx x (by simp [Call.operands]; right; simpa using hxm)) hvs
              have ha := hargs ev'
              generalize hg : List.map ev' cc.args.toList = l' at hlr ha
              cases hlr with
              | cons _ v' _ l2 e1 e2 =>
                cases e2 with
                | cons _ v2 _ l3 e2 e3 =>
                  cases e3
                  cases e2
                  obtain ⟨ab, ao, asp⟩ := a
                  simp only at hsp; subst hsp
                  cases e1 with
                  | ptr _ _ lc e1 =>
                    obtain ⟨l', ob, p1, p2, p3⟩ := hR.obj _ _ hrow
                    rw [e1] at p1; cases p1
                    obtain ⟨ca, fr, q0, q1, q2, q3, q4, q5⟩ := p3
                    subst q0
                    simp only at hle hl
                    have hts : cc.argTypes[0]? = some pt := by
                      have : cc.argTypes = ⟨[pt, t2]⟩ := by apply Array.ext'; simpa using hat
                      rw [this]; rfl
                    have hcs : P.cellsOf e = 1 := by
                      unfold sizeT at hse
                      unfold Program.cellsOf
                      split at hse
                      · rename_i i hi; have hse := Option.some.inj hse; rw [hi]; simpa using hse
                      · cases hse
                    have hsz : lc.o + ao + n ≤ ca.size := by
                      cases opn with
                      | false => obtain ⟨q1, q2⟩ := q4 rfl; omega
                      | true => obtain ⟨q1, q2, _⟩ := q5 rfl; omega
                    have hlies := liesAt_row (P := P) (count := ca.size / P.cellsOf e) (off := lc.o + ao) (n := n) hue hupe hcs (by rw [hcs]; simpa using hsz)
                    obtain ⟨hll, hcf⟩ := cellsFrom_get _ _ _ _ hl
                    have hlb : (loadBytes ⟨lc.b, lc.o + ao, none⟩ .empty n).run P w = .ok ⟨⟨b⟩⟩ w := by
                      have := loadBytes_run (P := P) (w := w) l b ⟨lc.b, lc.o + ao, none⟩ .empty hb rfl (fun j v hj => by
                        have hjn : j < n := by rw [← hll]; exact (List.getElem?_eq_some_iff.1 hj).1
                        obtain ⟨v1, v2, r1, r2, r3⟩ := q1 (ao + j) (by omega)
                        have hv : cs.get (ao + j) = some v := by rw [hcf j hjn]; exact hj
                        rw [hv] at r1; cases r1
                        have hint : ∃ m, v = .int .u8 (.ofNat m) := bytesOf_int _ _ hb j v hj
                        obtain ⟨m, rfl⟩ := hint
                        cases r3
                        simp only [World.cell?, p2]
                        simpa [Nat.add_assoc] using r2)
                      rw [hll] at this
                      simpa using this
                    have hrun : (execOp ev' o).run P w = .ok (.value (.string ⟨⟨b⟩⟩)) (w.freeze ⟨lc.b, lc.o + ao, none⟩ n) := by
                      simp only [execOp, hop, resolve, hc, ha, Sem.run_bind, Sem.run_pure, Result.andThen_ok, invoke, builtin]
                      rw [us_some _ pt pe e hts hup _ _ _ n ca.size hn hn2 (by simp [World.shape?, p2]) hlies hlb]
                      rfl
                    rw [hrun]
                    have hfz : (w.freeze ⟨lc.b, lc.o + ao, none⟩ n) = { w with heap := (w.freeze ⟨lc.b, lc.o + ao, none⟩ n).heap } := by
                      unfold World.freeze; split <;> rfl
                    obtain ⟨x1, x2⟩ := ext_drop (w' := w.freeze ⟨lc.b, lc.o + ao, none⟩ n) (n := s.n) hR hrow e1 (by unfold World.freeze; split <;> simp) (fun k hk => by
                      unfold World.freeze; split
                      · rfl
                      · simp [Array.getElem?_modify, Ne.symm hk]) (by rw [hfz]) (by rw [hfz]) (by rw [hfz]) s.n
                    refine ⟨ρ, ?_, ?_, .string _⟩
                    · show Ext ρ (rdS s) w s.n s.n ρ (rdS (s.kill ab)) _
                      rw [rdS_kill]; exact x1
                    · show Rel P ρ (rdS (s.kill ab)) _
                      rw [rdS_kill]; exact x2
            · cases hq
          · cases hq
        · cases hq
    · cases hq
  · rename_i hc
    split at hq
    · rename_i t t2 x y hat hvs
      split at hq
      · cases hq
      · rename_i d2 hni hu2
        split at hq
        · rename_i v s1 hap
          cases hq
          have hcap : cc.argTypes = #[t, t2] := by apply Array.ext'; simpa using hat
          have key : ∀ ρ w (ev' : Operand → Value), Rel P ρ (rdS s) w → Fresh ρ s.n s1.n → (∀ x ∈ cc.operands, ∀ v, ev x = some v → VRel ρ v (ev' x)) →
              ∃ v' w' ρ', (execOp ev' o).run P w = .ok (.value v') w' ∧ Ext ρ (rdS s) w s.n s1.n ρ' (rdS s1) w' ∧ Rel P ρ' (rdS s1) w' ∧ VRel ρ' v v' ∧ StLe s s1 := by
            intro ρ w ev' hR hF hx
            have hl := opvs_rel (ρ := ρ) (ev' := ev') _ _ (fun x hxm => hx x (by simp [Call.operands]; right; simpa using hxm)) hvs
            have ha := hargs ev'
            generalize hg : List.map ev' cc.args.toList = l' at hl ha
            cases hl with
            | cons _ x' _ l2 e1 e2 =>
              cases e2 with
              | cons _ y' _ l3 e2 e3 =>
                cases e3
                obtain ⟨v', w', ρ', r1, r2⟩ := appendF_sound (ty := o.type) hR hF hu2 (fun k h => hni k (by rw [h])) e1 e2 hap
                refine ⟨v', w', ρ', ?_, r2⟩
                simp only [execOp, hop, resolve, hc, ha, Sem.run_bind, Sem.run_pure, Result.andThen_ok, invoke, builtin, hcap]
                rw [r1]; rfl
          refine ⟨appendF_le hap, fun ρ w ev' hR hF hx => ?_⟩
          · obtain ⟨v', w', ρ', r1, r2, r3, r4, _⟩ := key ρ w ev' hR hF hx
            rw [r1]; exact ⟨ρ', r2, r3, r4⟩
        · cases hq
      · cases hq
    · cases hq
  · cases hq
end
end Go.Ev
