/- Code is sound. -/
import Derived.Test.YtjkklcpefepohaaGreatDoorEv5
import Derived.Recover
set_option linter.unusedVariables false
set_option linter.unusedSimpArgs false
namespace Go.Ev

/-- A loop's body, within. -/
def wpLoop (F : Fence) (n : Nat) (P : Program) (c : Code) (Q : Exit → Act → World → Prop) (a : Act) (w : World) : Prop :=
  ∀ (b : Frame) (k : List Item) (cs : List Frame), b.roundOf = F.round → F.fn b.fn → F.room (cs.length + 1 + n) →
    ∃ e a' w', Q e a' w' ∧ ArrivesIn (Machine.fenced P F) P (lone (b.atR a (.code c :: .inLoop c :: k)) cs w) b k cs e a' w'
def wpScope (F : Fence) (n : Nat) (P : Program) (whole c : Code) (Q : Exit → Act → World → Prop) (a : Act) (w : World) : Prop :=
  ∀ (b : Frame) (k : List Item) (cs : List Frame), b.roundOf = F.round → F.fn b.fn → F.room (cs.length + 1 + n) →
    ∃ e a' w', Q e a' w' ∧ ArrivesIn (Machine.fenced P F) P (lone (b.atR a (.code c :: .inScope whole :: k)) cs w) b k cs e a' w'
section
variable {F : Fence} {n : Nat} {P : Program} {Q : Exit → Act → World → Prop} {a : Act} {w : World}
theorem wpIn_of_loop {c : Code} (h : wpLoop F n P c Q a w) : (Code.loop c).wpIn F n P Q a w := by
  intro b k cs hro hb hr
  obtain ⟨e, a', w', hq, harr⟩ := h b k cs hro hb hr
  exact ⟨e, a', w', hq, .of_steps (.one (fenced_calm hb hr rfl) stepR_loop) harr⟩
theorem wpLoop_of {c : Code} (h : c.wpIn F n P (Exit.then (wpLoop F n P c Q) Q) a w) : wpLoop F n P c Q a w := by
  intro b k cs hro hb hr
  obtain ⟨e, a₁, w₁, hq, harr⟩ := h b (.inLoop c :: k) cs hro hb hr
  cases e with
  | normal =>
    obtain ⟨e₂, a₂, w₂, hq₂, harr₂⟩ := hq b k cs hro hb hr
    exact ⟨e₂, a₂, w₂, hq₂, .of_steps (StepsIn.trans harr (.one (fenced_calm hb hr rfl) stepR_inLoop)) harr₂⟩
  | exit id => exact ⟨_, a₁, w₁, hq, .pass (x := .inLoop c) rfl (fun _ _ => .inl (by simp)) harr⟩
  | goto l => exact ⟨_, a₁, w₁, hq, .pass (x := .inLoop c) rfl (fun _ _ => .inl (by simp)) harr⟩
  | ret => exact ⟨_, a₁, w₁, hq, .pass (x := .inLoop c) rfl (fun _ _ => .inl (by simp)) harr⟩
  | panic ch => exact ⟨_, a₁, w₁, hq, .pass (x := .inLoop c) rfl (fun _ _ => .inl (by simp)) harr⟩
  | outgrown => exact ⟨_, a₁, w₁, hq, .pass (x := .inLoop c) rfl (fun _ _ => .inl (by simp)) harr⟩
theorem stepR_scope {b : Frame} {k : List Item} {cs : List Frame} {c : Code} : step P (lone (b.atR a (.code (.scope c) :: k)) cs w) = .next (lone (b.atR a (.code c :: .inScope c :: k)) cs w) :=
  step_lone_go (by simp [stepG, stepG.exec, Frame.atR])
theorem stepR_inScope {b : Frame} {k : List Item} {cs : List Frame} {c : Code} : step P (lone (b.atR a (.inScope c :: k)) cs w) = .next (lone (b.atR a k) cs w) :=
  step_lone_go (by simp [stepG, stepG.exec, Frame.atR])
theorem wpIn_of_scope {c : Code} (h : wpScope F n P c c Q a w) : (Code.scope c).wpIn F n P Q a w := by
  intro b k cs hro hb hr
  obtain ⟨e, a', w', hq, harr⟩ := h b k cs hro hb hr
  exact ⟨e, a', w', hq, .of_steps (.one (fenced_calm hb hr rfl) stepR_scope) harr⟩
/-- As Q; by a goto: on from its label. -/
def Exit.label (F : Fence) (n : Nat) (P : Program) (whole : Code) (Q : Exit → Act → World → Prop) : Exit → Act → World → Prop
  | .goto l, a, w => ∃ rest, findLabel whole l = some rest ∧ wpScope F n P whole rest Q a w
  | e, a, w => Q e a w
theorem wpScope_of {whole c : Code} (h : c.wpIn F n P (Exit.label F n P whole Q) a w) : wpScope F n P whole c Q a w := by
  intro b k cs hro hb hr
  obtain ⟨e, a₁, w₁, hq, harr⟩ := h b (.inScope whole :: k) cs hro hb hr
  cases e with
  | normal => exact ⟨.normal, a₁, w₁, hq, StepsIn.trans harr (.one (fenced_calm hb hr rfl) stepR_inScope)⟩
  | exit id =>
    have hx : exitTo id (.inScope whole :: k) = exitTo id k := by simp [exitTo]
    exact ⟨.exit id, a₁, w₁, hq, fun k' hk => harr.1 k' (by rw [hx]; exact hk), fun hr' hk => harr.2 hr' (by rw [hx]; exact hk)⟩
  | goto l =>
    obtain ⟨rest, hf, hq⟩ := hq
    obtain ⟨e₂, a₂, w₂, hq₂, harr₂⟩ := hq b k cs hro hb hr
    have hg : gotoIn l (.inScope whole :: k) = some (.code rest :: .inScope whole :: k) := by simp [gotoIn, hf]
    exact ⟨e₂, a₂, w₂, hq₂, .of_steps (harr.1 _ hg) harr₂⟩
  | ret => exact ⟨_, a₁, w₁, hq, harr⟩
  | panic ch => exact ⟨_, a₁, w₁, hq, harr⟩
  | outgrown => exact ⟨_, a₁, w₁, hq, harr⟩
theorem wpLoop_mono {c : Code} {Q' : Exit → Act → World → Prop} (h : wpLoop F n P c Q a w) (hq : ∀ e a w, Q e a w → Q' e a w) : wpLoop F n P c Q' a w :=
  fun b k cs hro hb hr => let ⟨e, a', w', q, r⟩ := h b k cs hro hb hr; ⟨e, a', w', hq _ _ _ q, r⟩
theorem wpScope_mono {whole c : Code} {Q' : Exit → Act → World → Prop} (h : wpScope F n P whole c Q a w) (hq : ∀ e a w, Q e a w → Q' e a w) : wpScope F n P whole c Q' a w :=
  fun b k cs hro hb hr => let ⟨e, a', w', q, r⟩ := h b k cs hro hb hr; ⟨e, a', w', hq _ _ _ q, r⟩
end

/-- No function bears the one name that the model runs by itself. -/
def NoCount (P : Program) : Prop := ∀ (f : Nat) (fn : Func), P.funcs[f]? = some fn → fn.name ≠ "runtime.NumGoroutine"

section
variable {P : Program} {call : CallF} {nt : Nat} {r : Option Nat}
def CodeOk (P : Program) (nt : Nat) (r : Option Nat) (c : Code) (t : Tri Value) (d : List Deferred) (s : St) (out : Out) : Prop := StLe s out.s ∧
  ∀ ρ w xs ds F, FenceOf ρ r F → Rel P ρ (rdS s) w → Fresh ρ s.n out.s.n → TRel ρ t nt xs → DLRel ρ d ds → c.wpIn F 0 P (Fin P nt ρ s w out) ⟨xs, ds⟩ w
def LoopOk (P : Program) (nt : Nat) (r : Option Nat) (c : Code) (t : Tri Value) (d : List Deferred) (s : St) (out : Out) : Prop := StLe s out.s ∧
  ∀ ρ w xs ds F, FenceOf ρ r F → Rel P ρ (rdS s) w → Fresh ρ s.n out.s.n → TRel ρ t nt xs → DLRel ρ d ds → wpLoop F 0 P c (Fin P nt ρ s w out) ⟨xs, ds⟩ w
def ScopeOk (P : Program) (nt : Nat) (r : Option Nat) (whole c : Code) (t : Tri Value) (d : List Deferred) (s : St) (out : Out) : Prop := StLe s out.s ∧
  ∀ ρ w xs ds F, FenceOf ρ r F → Rel P ρ (rdS s) w → Fresh ρ s.n out.s.n → TRel ρ t nt xs → DLRel ρ d ds → wpScope F 0 P whole c (Fin P nt ρ s w out) ⟨xs, ds⟩ w

theorem okD_eq {d : List Deferred} (h : okD r d = true) : r = none ∨ d = [] := by
  cases r with
  | none => exact .inl rfl
  | some l => exact .inr (nilB_eq.1 h)

/-- The statement's entry. -/
theorem enterF_sound {t : Tri Value} {ps : List Tmp} {asg body : Code} {s s1 : St} {l : Nat} {mark : List Deferred} (hq : enterF r t nt ps asg body s = some (l, mark, s1)) :
    StLe s s1 ∧ ∀ ρ w xs F fn, FenceOf ρ r F → Rel P ρ (rdS s) w → Fresh ρ s.n s1.n → TRel ρ t nt xs →
      ∃ ρ' w' lc mark', (Instr.enterLoop fn xs ⟨ps⟩ asg body F.round).run P w = .ok (lc.b, mark') w' ∧ Ext ρ (rdS s) w s.n s1.n ρ' (rdS s1) w' ∧ Rel P ρ' (rdS s1) w' ∧ ρ' l = some lc ∧ DLRel ρ' mark mark' := by
  unfold enterF at hq
  split at hq
  · rename_i l0
    split at hq
    · rename_i st p t2 nt2 ps2 a2 b2 dn hrow
      cases hq
      refine ⟨StLe.new _ _, fun ρ w xs F fn hf hR hF ht => ?_⟩
      obtain ⟨lc0, e1, e2⟩ := hf
      subst e2
      obtain ⟨lc', ob, f1, f2, f3⟩ := hR.obj _ _ hrow
      rw [e1] at f1; cases f1
      obtain ⟨fn0, xs0, ld, g1, g2, g3⟩ := f3
      rw [g1] at f2
      have hgl : (Instr.getLoop lc0.b).run P w = .ok { state := st, pending := p, fn := fn0, tmps := xs0, params := ⟨ps2⟩, assign := a2, body := b2, defers := ld.b } w := by
        simp [Instr.getLoop, getObj, Sem.run, f2]
      have hob : ObjRel P ρ ⟨w.heap.size, 0, 0, 0⟩ (.loop .ready none t nt ps asg body dn) (.loop { state := .ready, pending := none, fn := fn, tmps := xs, params := ⟨ps⟩, assign := asg, body := body, defers := ld.b }) :=
        ⟨fn, xs, ld, rfl, ht, g3⟩
      obtain ⟨x1, x2⟩ := ext_new (w' := w.alloc (.loop { state := .ready, pending := none, fn := fn, tmps := xs, params := ⟨ps⟩, assign := asg, body := body, defers := ld.b })) hR (hF s.n (Nat.le_refl _) (Nat.lt_succ_self _)) rfl rfl rfl rfl rfl hob
      refine ⟨ρ.upd s.n ⟨w.heap.size, 0, 0, 0⟩, w.alloc (.loop { state := .ready, pending := none, fn := fn, tmps := xs, params := ⟨ps⟩, assign := asg, body := body, defers := ld.b }), ⟨w.heap.size, 0, 0, 0⟩, [], ?_, ?_, ?_, Ren.upd_same _ _ _, .nil⟩
      · simp [Instr.enterLoop, hgl]
      · rw [rdS_new]; exact x1
      · rw [rdS_new]; exact x2
    · cases hq
  · cases hq
    refine ⟨(StLe.new _ _).trans (StLe.new _ _), fun ρ w xs F fn hf hR hF ht => ?_⟩
    cases hf
    have hn1 : (s.new (.dfd true)).n = s.n + 1 := rfl
    have hn2 : ((s.new (.dfd true)).new (.loop .ready none t nt ps asg body s.n)).n = s.n + 2 := rfl
    obtain ⟨x1, x2⟩ := ext_new (P := P) (ρ := ρ) (h := rdS s) (w := w) (w' := w.alloc (.deferred (some []))) (a := s.n) (o := .dfd true) (l := ⟨w.heap.size, 0, 0, 0⟩) hR (hF s.n (Nat.le_refl _) (by rw [hn2]; omega)) rfl rfl rfl rfl rfl rfl
    have hob : ObjRel P (ρ.upd s.n ⟨w.heap.size, 0, 0, 0⟩) ⟨w.heap.size + 1, 0, 0, 0⟩ (.loop .ready none t nt ps asg body s.n) (.loop { state := .ready, pending := none, fn := fn, tmps := xs, params := ⟨ps⟩, assign := asg, body := body, defers := w.heap.size }) :=
      ⟨fn, xs, ⟨w.heap.size, 0, 0, 0⟩, rfl, ht.mono x1.le, Ren.upd_same _ _ _⟩
    have hfr : (ρ.upd s.n ⟨w.heap.size, 0, 0, 0⟩) (s.n + 1) = none := by
      unfold Ren.upd
      rw [if_neg (by omega)]
      exact hF _ (by omega) (by rw [hn2]; omega)
    obtain ⟨y1, y2⟩ := ext_new (w' := (w.alloc (.deferred (some []))).alloc (.loop { state := .ready, pending := none, fn := fn, tmps := xs, params := ⟨ps⟩, assign := asg, body := body, defers := w.heap.size })) x2 hfr rfl rfl rfl rfl (by show w.heap.size + 1 = (w.heap.push _).size; rw [Array.size_push]) hob
    refine ⟨(ρ.upd s.n ⟨w.heap.size, 0, 0, 0⟩).upd (s.n + 1) ⟨w.heap.size + 1, 0, 0, 0⟩, (w.alloc (.deferred (some []))).alloc (.loop { state := .ready, pending := none, fn := fn, tmps := xs, params := ⟨ps⟩, assign := asg, body := body, defers := w.heap.size }), ⟨w.heap.size + 1, 0, 0, 0⟩, [⟨.collected w.heap.size, #[]⟩], ?_, ?_, ?_, Ren.upd_same _ _ _, .col s.n ⟨w.heap.size, 0, 0, 0⟩ [] [] (y1.le _ _ (Ren.upd_same _ _ _)) .nil⟩
    · have hr : Fence.wide.round = none := rfl
      have hsz : (w.alloc (.deferred (some []))).heap.size = w.heap.size + 1 := by show (w.heap.push _).size = _; rw [Array.size_push]
      rw [hr]
      simp only [Instr.enterLoop, Sem.run_bind, run_newObj, Result.andThen_ok, Sem.run_pure, World.alloc_eq, hsz]
    · rw [rdS_new, rdS_new]
      exact x1.trans y1 (by omega) (by omega)
    · rw [rdS_new, rdS_new]; exact y2

theorem endF_sound {l : Nat} {j : Option Code} {s s1 : St} (hq : endF l s = some (j, s1)) :
    StLe s s1 ∧ ∀ ρ w lc, Rel P ρ (rdS s) w → ρ l = some lc → ∃ w', (Instr.endLoop lc.b).run P w = .ok j w' ∧ Ext ρ (rdS s) w s.n s1.n ρ (rdS s1) w' ∧ Rel P ρ (rdS s1) w' := by
  unfold endF at hq
  split at hq
  · rename_i st p t nt ps asg bo dn hrow
    have main : st ≠ .busy → (j, s1) = (p, s.put l (.loop .exhausted p t nt ps asg bo dn)) → StLe s s1 ∧ ∀ ρ w lc, Rel P ρ (rdS s) w → ρ l = some lc → ∃ w', (Instr.endLoop lc.b).run P w = .ok j w' ∧ Ext ρ (rdS s) w s.n s1.n ρ (rdS s1) w' ∧ Rel P ρ (rdS s1) w' := by
      intro hst he
      cases he
      refine ⟨StLe.put _ _ _ ⟨_, hrow⟩, fun ρ w lc hR hl => ?_⟩
      obtain ⟨lc', ob, f1, f2, f3⟩ := hR.obj _ _ hrow
      rw [hl] at f1; cases f1
      obtain ⟨fn0, xs0, ld, g1, g2, g3⟩ := f3
      rw [g1] at f2
      have hgl : (Instr.getLoop lc.b).run P w = .ok { state := st, pending := j, fn := fn0, tmps := xs0, params := ⟨ps⟩, assign := asg, body := bo, defers := ld.b } w := by
        simp [Instr.getLoop, getObj, Sem.run, f2]
      have hs : ∀ o2, (setObj lc.b o2).run P w = .ok () { w with heap := w.heap.setIfInBounds lc.b o2 } := by intro o2; simp [setObj, Sem.run, f2]
      have hblt : lc.b < w.heap.size := by
        rcases Nat.lt_or_ge lc.b w.heap.size with h | h
        · exact h
        · rw [Array.getElem?_eq_none h] at f2; cases f2
      have hbz : (st == LoopState.busy) = false := by cases st <;> first | rfl | exact absurd rfl hst
      have hob : ObjRel P ρ lc (.loop .exhausted j t nt ps asg bo dn) (.loop { state := .exhausted, pending := j, fn := fn0, tmps := xs0, params := ⟨ps⟩, assign := asg, body := bo, defers := ld.b }) := ⟨fn0, xs0, ld, rfl, g2, g3⟩
      obtain ⟨x1, x2⟩ := ext_put (n := s.n) (w' := { w with heap := w.heap.setIfInBounds lc.b (.loop { state := .exhausted, pending := j, fn := fn0, tmps := xs0, params := ⟨ps⟩, assign := asg, body := bo, defers := ld.b }) }) hR hrow hl (by simp) (by simp [hblt]) (fun k hk => by simp [Array.getElem?_setIfInBounds, Ne.symm hk]) rfl rfl rfl hob (s.n + 1)
      refine ⟨{ w with heap := w.heap.setIfInBounds lc.b (.loop { state := .exhausted, pending := j, fn := fn0, tmps := xs0, params := ⟨ps⟩, assign := asg, body := bo, defers := ld.b }) }, ?_, ?_, ?_⟩
      · simp [Instr.endLoop, hgl, hbz, hs, hst]
      · rw [rdS_put]; exact x1
      · rw [rdS_put]; exact x2
    cases st with
    | busy => simp at hq
    | ready => exact main (by simp) (by simpa [eq_comm] using hq)
    | done => exact main (by simp) (by simpa [eq_comm] using hq)
    | exhausted => exact main (by simp) (by simpa [eq_comm] using hq)
  · cases hq
end
end Go.Ev

/- Code is sound: the induction. -/
namespace Go.Ev
section
variable {P : Program} {call : CallF} {nt : Nat} {r : Option Nat}

theorem hasBody_run (hN : NoCount P) {g : FuncId} {a b : Array Value} (h : hasBody P (.func (.func g) a b) = true) (args : Array Value) (w : World) : (callFunc g args).run P w = .ok (.enter g args) w := by
  unfold hasBody at h
  simp only at h
  split at h
  · rename_i fn hfn
    have hn := hN g fn hfn
    split at h
    · rename_i c hb
      simp [callFunc, hfn, hn, hb]
    · cases h
  · cases h

theorem CodeOk.then {c1 : Code} {t : Tri Value} {d : List Deferred} {s : St} {o1 out : Out} (h1 : CodeOk P nt r c1 t d s o1) (he : o1.e ≠ .normal) : CodeOk P nt r c1 t d s o1 := h1

theorem Fin.normal {ρ : Ren} {s : St} {w : World} {out : Out} {x : Exit} {a : Act} {w' : World} (h : Fin P nt ρ s w out x a w') (he : out.e = .normal) : x = .normal := by
  obtain ⟨ρ', _, _, _, _, h5⟩ := h
  rw [he] at h5; exact h5
/-- A code that does not end normally: nothing comes behind it. -/
theorem fin_then {ρ : Ren} {s : St} {w : World} {out : Out} {x : Exit} {a : Act} {w' : World} {K : Act → World → Prop} {Q : Exit → Act → World → Prop} (h : Fin P nt ρ s w out x a w') (he : out.e ≠ .normal) (hQ : Q x a w') : Exit.then K Q x a w' := by
  cases x with
  | normal =>
    obtain ⟨ρ', _, _, _, _, h5⟩ := h
    cases hx : out.e with
    | normal => exact absurd hx he
    | _ => rw [hx] at h5; first | (obtain ⟨_, h6, _⟩ := h5; cases h6) | cases h5
  | _ => exact hQ

def blkE (id : Nat) : Ex → Ex
  | .exit k => match Nat.beq k id with | true => .normal | false => .exit k
  | e => e
theorem code_sound (hm : P.follows .mixedOrders = true) (hN : NoCount P) (hc : CallOk P call) : ∀ n,
    (∀ c t d s out, codeF P call r nt n c t d s = some out → CodeOk P nt r c t d s out) ∧
    (∀ body t d s out, codeF P call r nt n (.loop body) t d s = some out → LoopOk P nt r body t d s out) ∧
    (∀ whole c t d s out, scopeF P call r nt whole n c t d s = some out → ScopeOk P nt r whole c t d s out) := by
  intro n
  induction n with
  | zero => exact ⟨fun c t d s out h => by simp [codeF] at h, fun c t d s out h => by simp [codeF] at h, fun whole c t d s out h => by simp [scopeF] at h⟩
  | succ n ih =>
    obtain ⟨ihC, ihL, ihS⟩ := ih
    have hloop : ∀ body t d s out, codeF P call r nt (n + 1) (.loop body) t d s = some out → LoopOk P nt r body t d s out := by
      intro body t d s out h
      simp only [codeF] at h
      cases hb : codeF P call r nt n body t d s with
      | none => rw [hb] at h; cases h
      | some o1 =>
        rw [hb] at h
        obtain ⟨a1, a2⟩ := ihC _ _ _ _ _ hb
        obtain ⟨e, t1, d1, s1⟩ := o1
        by_cases he : e = .normal
        · subst he
          simp only at h
          obtain ⟨b1, b2⟩ := ihL _ _ _ _ _ h
          refine ⟨a1.trans b1, fun ρ w xs ds F hf hR hF ht hd => wpLoop_of (wpIn_mono (a2 ρ w xs ds F hf hR (hF.sub (Nat.le_refl _) b1.n) ht hd) fun x a w' hfin => ?_)⟩
          have := hfin.normal rfl
          subst this
          obtain ⟨ρ1, c1, c2, c3, c4, c5⟩ := hfin
          obtain ⟨xs1, ds1⟩ := a
          exact wpLoop_mono (b2 ρ1 w' xs1 ds1 F (hf.mono c1.le) c2 (hF.ext c1 a1.n) c3 c4) fun x a w'' hfin => hfin.ext c1 a1 b1
        · have hh : some (⟨e, t1, d1, s1⟩ : Out) = some out := by
            cases e with
            | normal => exact absurd rfl he
            | _ => exact h
          cases hh
          refine ⟨a1, fun ρ w xs ds F hf hR hF ht hd => wpLoop_of (wpIn_mono (a2 ρ w xs ds F hf hR hF ht hd) fun x a w' hfin => fin_then hfin he hfin)⟩
    refine ⟨?_, hloop, ?_⟩
    · intro c t d s out h
      cases c with
      | skip =>
        simp only [codeF] at h; cases h
        exact ⟨StLe.refl _, fun ρ w xs ds F hf hR hF ht hd => wpIn_skip ⟨ρ, Ext.refl _ _ _ _, hR, ht, hd, rfl⟩⟩
      | label l =>
        simp only [codeF] at h; cases h
        exact ⟨StLe.refl _, fun ρ w xs ds F hf hR hF ht hd => wpIn_label ⟨ρ, Ext.refl _ _ _ _, hR, ht, hd, rfl⟩⟩
      | exit id =>
        simp only [codeF] at h; cases h
        exact ⟨StLe.refl _, fun ρ w xs ds F hf hR hF ht hd => wpIn_exit ⟨ρ, Ext.refl _ _ _ _, hR, ht, hd, rfl⟩⟩
      | goto l =>
        simp only [codeF] at h; cases h
        exact ⟨StLe.refl _, fun ρ w xs ds F hf hR hF ht hd => wpIn_goto ⟨ρ, Ext.refl _ _ _ _, hR, ht, hd, rfl⟩⟩
      | ret =>
        simp only [codeF] at h; cases h
        exact ⟨StLe.refl _, fun ρ w xs ds F hf hR hF ht hd => wpIn_ret ⟨ρ, Ext.refl _ _ _ _, hR, ht, hd, rfl⟩⟩
      | region id ops draw =>
        simp only [codeF] at h
        cases draw with
        | false =>
          simp only at h
          have key : ∀ st, opsF P call nt ops.toList ops.toList t d s = some st → st.out = out → okD r st.out.d = true → CodeOk P nt r (.region id ops false) t d s out := by
            intro st hst ho hd0
            obtain ⟨a1, a2, a3⟩ := opsF_sound hc _ _ _ _ _ hst
            subst ho
            exact ⟨a1, fun ρ w xs ds F hf hR hF ht hd => wpIn_region (a3 ρ w xs ds F r _ _ (IL.all ops) hf hR hF ht hd (okD_eq hd0) fun x a w' hfin => hfin)⟩
          split at h
          · rename_i t' d' s' hst
            split at h
            · rename_i hd0; cases h; exact key _ hst rfl hd0
            · cases h
          · rename_i v t' d' s' hst
            split at h
            · rename_i hd0; cases h; exact key _ hst rfl hd0
            · cases h
          · cases h
        | true =>
          simp only at h
          have key : ∀ st, drawF P call nt ops.toList t d s = some st → st.out = out → CodeOk P nt r (.region id ops true) t d s out := by
            intro st hst ho
            obtain ⟨a1, a2, a3⟩ := drawF_sound hm hc hst
            subst ho
            exact ⟨a1, fun ρ w xs ds F hf hR hF ht hd => a3 ρ w xs ds F r _ id hf hR hF ht hd fun x a w' hfin => hfin⟩
          split at h
          · rename_i t' d' s' hst
            split at h
            · cases h; exact key _ hst rfl
            · cases h
          · rename_i v t' d' s' hst
            split at h
            · cases h; exact key _ hst rfl
            · cases h
          · cases h
      | seq x y =>
        simp only [codeF] at h
        cases hb : codeF P call r nt n x t d s with
        | none => rw [hb] at h; cases h
        | some o1 =>
          rw [hb] at h
          obtain ⟨a1, a2⟩ := ihC _ _ _ _ _ hb
          obtain ⟨e, t1, d1, s1⟩ := o1
          by_cases he : e = .normal
          · subst he
            simp only at h
            obtain ⟨b1, b2⟩ := ihC _ _ _ _ _ h
            refine ⟨a1.trans b1, fun ρ w xs ds F hf hR hF ht hd => wpIn_seq (wpIn_mono (a2 ρ w xs ds F hf hR (hF.sub (Nat.le_refl _) b1.n) ht hd) fun x a w' hfin => ?_)⟩
            have := hfin.normal rfl
            subst this
            obtain ⟨ρ1, c1, c2, c3, c4, c5⟩ := hfin
            obtain ⟨xs1, ds1⟩ := a
            exact wpIn_mono (b2 ρ1 w' xs1 ds1 F (hf.mono c1.le) c2 (hF.ext c1 a1.n) c3 c4) fun x a w'' hfin => hfin.ext c1 a1 b1
          · have hh : some (⟨e, t1, d1, s1⟩ : Out) = some out := by
              cases e with
              | normal => exact absurd rfl he
              | _ => exact h
            cases hh
            exact ⟨a1, fun ρ w xs ds F hf hR hF ht hd => wpIn_seq (wpIn_mono (a2 ρ w xs ds F hf hR hF ht hd) fun x a w' hfin => fin_then hfin he hfin)⟩
      | cond c x y =>
        simp only [codeF] at h
        split at h
        · rename_i hv
          obtain ⟨a1, a2⟩ := ihC _ _ _ _ _ h
          refine ⟨a1, fun ρ w xs ds F hf hR hF ht hd => wpIn_cond_true ?_ (a2 ρ w xs ds F hf hR hF ht hd)⟩
          exact bool_rel (opv_rel (a := ⟨xs, ds⟩) hR ht hv)
        · rename_i hv
          obtain ⟨a1, a2⟩ := ihC _ _ _ _ _ h
          refine ⟨a1, fun ρ w xs ds F hf hR hF ht hd => wpIn_cond_false ?_ (a2 ρ w xs ds F hf hR hF ht hd)⟩
          exact bool_rel (opv_rel (a := ⟨xs, ds⟩) hR ht hv)
        · cases h
      | block id body =>
        simp only [codeF] at h
        cases hb : codeF P call r nt n body t d s with
        | none => rw [hb] at h; cases h
        | some o1 =>
          rw [hb] at h
          obtain ⟨a1, a2⟩ := ihC _ _ _ _ _ hb
          obtain ⟨e, t1, d1, s1⟩ := o1
          have ho : out = ⟨blkE id e, t1, d1, s1⟩ := by
            cases e with
            | exit k =>
              simp only at h
              cases hk : Nat.beq k id <;> rw [hk] at h <;> cases h <;> simp only [blkE, hk]
            | _ => simp only at h; cases h; rfl
          subst ho
          refine ⟨a1, fun ρ w xs ds F hf hR hF ht hd => wpIn_block (wpIn_mono (a2 ρ w xs ds F hf hR hF ht hd) fun x a w' hfin => ?_)⟩
          obtain ⟨ρ1, c1, c2, c3, c4, c5⟩ := hfin
          cases e with
          | exit k =>
            have c5 : x = .exit k := c5
            subst c5
            simp only [Exit.inBlock]
            by_cases hk : k = id
            · have hb : Nat.beq k id = true := by rw [Nat.beq_eq]; exact hk
              simp only [if_pos hk]
              exact ⟨ρ1, c1, c2, c3, c4, by simp only [blkE, hb]; rfl⟩
            · have hb : Nat.beq k id = false := by rw [← Bool.not_eq_true, Nat.beq_eq]; exact hk
              simp only [if_neg hk]
              exact ⟨ρ1, c1, c2, c3, c4, by simp only [blkE, hb]; rfl⟩
          | normal => have c5 : x = .normal := c5; subst c5; exact ⟨ρ1, c1, c2, c3, c4, rfl⟩
          | goto l => have c5 : x = .goto l := c5; subst c5; exact ⟨ρ1, c1, c2, c3, c4, rfl⟩
          | ret => have c5 : x = .ret := c5; subst c5; exact ⟨ρ1, c1, c2, c3, c4, rfl⟩
          | panic v => obtain ⟨v', c5, c6⟩ := c5; subst c5; exact ⟨ρ1, c1, c2, c3, c4, v', rfl, c6⟩
      | loop body =>
        obtain ⟨a1, a2⟩ := hloop _ _ _ _ _ h
        exact ⟨a1, fun ρ w xs ds F hf hR hF ht hd => wpIn_of_loop (a2 ρ w xs ds F hf hR hF ht hd)⟩
      | scope body =>
        simp only [codeF] at h
        obtain ⟨a1, a2⟩ := ihS _ _ _ _ _ _ h
        exact ⟨a1, fun ρ w xs ds F hf hR hF ht hd => wpIn_of_scope (a2 ρ w xs ds F hf hR hF ht hd)⟩
      | rangeFunc g ps asg body =>
        simp only [codeF] at h
        split at h
        · rename_i gv l mark s1 hg hen
          split at h
          · cases h
          · rename_i hbody
            split at h
            · rename_i v s2 hinv
              obtain ⟨b1, b2⟩ := enterF_sound (r := r) hen
              obtain ⟨i1, i2⟩ := invF_sound hc hinv
              have core : ∀ j s3, endF l s2 = some (j, s3) → StLe s3 out.s → (∀ ρ3 w3 xs ds3 F, FenceOf ρ3 r F → Rel P ρ3 (rdS s3) w3 → Fresh ρ3 s3.n out.s.n → TRel ρ3 t nt xs → DLRel ρ3 (mark ++ d) ds3 →
                  match j with | none => Fin P nt ρ3 s3 w3 out .normal ⟨xs, ds3⟩ w3 | some c => c.wpIn F 0 P (Fin P nt ρ3 s3 w3 out) ⟨xs, ds3⟩ w3) → CodeOk P nt r (.rangeFunc g ps asg body) t d s out := by
                intro j s3 hend hle3 hK
                obtain ⟨e1, e2⟩ := endF_sound hend
                simp only at i1 i2
                refine ⟨((b1.trans i1).trans e1).trans hle3, fun ρ w xs ds F hf hR hF ht hd => ?_⟩
                refine wpIn_rangeFunc fun fn _ => ?_
                have hF1 : Fresh ρ s.n s1.n := hF.sub (Nat.le_refl _) (Nat.le_trans i1.n (Nat.le_trans e1.n hle3.n))
                obtain ⟨ρ1, w1, lc, mark', q1, q2, q3, q4, q5⟩ := b2 ρ w xs F fn hf hR hF1 ht
                have hFr1 : Fresh ρ1 s1.n out.s.n := hF.ext q2 b1.n
                have hgv := (opv_rel (a := ⟨xs, ds⟩) hR ht hg).mono q2.le
                have hgf : ∃ f first cap, gv = .func (.func f) first cap := by
                  unfold hasBody at hbody
                  split at hbody
                  · exact ⟨_, _, _, rfl⟩
                  · cases hbody
                obtain ⟨f, first, cap, rfl⟩ := hgf
                have hyl : LRel ρ1 [.func (.yield l) #[] #[]] [.func (.yield lc.b) #[] #[]] := .cons _ _ _ _ (.yield l lc q4) .nil
                have hi := i2 ρ1 w1 ((⟨xs, ds⟩ : Act).eval g) _ q3 (hFr1.sub (Nat.le_refl _) (Nat.le_trans e1.n hle3.n)) hgv hyl
                obtain ⟨first⟩ := first
                obtain ⟨cap⟩ := cap
                generalize hgg : (⟨xs, ds⟩ : Act).eval g = gv' at hi hgv
                cases hgv with
                | fn _ _ _ xs' ys' u1 u2 =>
                  have hres : (resolve (⟨xs, ds⟩ : Act).eval (rangeCall g lc.b) 0).run P w1 = .ok ⟨.fn (.func f) ⟨ys'⟩, ⟨xs' ++ [.func (.yield lc.b) #[] #[]]⟩⟩ w1 := by
                    have hcc : (⟨xs, ds⟩ : Act).eval (.const (.func (.yield lc.b) #[] #[])) = .func (.yield lc.b) #[] #[] := rfl
                    simp [resolve, rangeCall, hgg, Deferred.ofValue, hcc]
                  have hrun : ∀ args w, (callFunc f args).run P w = .ok (.enter f args) w := fun args w => hasBody_run hN hbody args w
                  have hinv' : (invoke (.fn (.func f) ⟨ys'⟩) ⟨xs' ++ [.func (.yield lc.b) #[] #[]]⟩).run P w1 = .ok (.enter f ⟨xs' ++ [.func (.yield lc.b) #[] #[]] ++ ys'⟩) w1 := by
                    simp [invoke, hrun]
                  refine ⟨lc.b, mark', w1, _, w1, f, _, w1, q1, hres, fun f' _ => hf.fn f', hinv', fun hd => absurd (hf.depth hd) (by omega), ?_⟩
                  have hi2 : EOk P ρ1 s1 w1 ⟨.ret v, s2⟩ (.ok (.enter f ⟨xs' ++ [.func (.yield lc.b) #[] #[]] ++ ys'⟩) w1) := by
                    have : ((do let d ← Deferred.ofValue (.func (.func f) ⟨xs'⟩ ⟨ys'⟩) ⟨[.func (.yield lc.b) #[] #[]]⟩; invoke d.target d.args : Sem Next).run P w1) = .ok (.enter f ⟨xs' ++ [.func (.yield lc.b) #[] #[]] ++ ys'⟩) w1 := by
                      simp [Deferred.ofValue, invoke, hrun]
                    rw [← this]; exact hi
                  refine CallsIn.mono (hf.calls hi2) fun e w2 hpost => ?_
                  obtain ⟨ρ2, p1, p2, p3⟩ := hpost
                  simp only at p1 p2 p3
                  cases e with
                  | panicked ch => exact p3.elim
                  | outgrown => exact p3.elim
                  | returned v' =>
                    obtain ⟨w3, r1, r2, r3⟩ := e2 ρ2 w2 lc p2 (p1.le _ _ q4)
                    have hx : Ext ρ (rdS s) w s.n s3.n ρ2 (rdS s3) w3 := (q2.trans p1 b1.n i1.n).trans r2 (b1.trans i1).n e1.n
                    have hfr : Fresh ρ2 s3.n out.s.n := hF.ext hx ((b1.trans i1).trans e1).n
                    have hk := hK ρ2 w3 xs (mark' ++ ds) F (hf.mono hx.le) r3 hfr (ht.mono hx.le) ((q5.append (hd.mono q2.le)).mono (p1.le.trans r2.le))
                    refine ⟨j, w3, r1, ?_⟩
                    cases j with
                    | none => exact Fin.ext hx ((b1.trans i1).trans e1) hle3 hk
                    | some c => exact wpIn_mono hk fun x a w'' hfin => hfin.ext hx ((b1.trans i1).trans e1) hle3
              split at h
              · rename_i s3 hend
                cases h
                exact core none s3 hend (StLe.refl _) fun ρ3 w3 xs ds3 F hf hR hF ht hd => ⟨ρ3, Ext.refl _ _ _ _, hR, ht, hd, rfl⟩
              · rename_i c s3 hend
                obtain ⟨a1, a2⟩ := ihC _ _ _ _ _ h
                exact core (some c) s3 hend a1 fun ρ3 w3 xs ds3 F hf hR hF ht hd => a2 ρ3 w3 xs ds3 F hf hR hF ht hd
              · cases h
            · cases h
        · cases h
      | _ => simp only [codeF] at h; cases h
    · intro whole c t d s out h
      simp only [scopeF] at h
      cases hb : codeF P call r nt n c t d s with
      | none => rw [hb] at h; cases h
      | some o1 =>
        rw [hb] at h
        obtain ⟨a1, a2⟩ := ihC _ _ _ _ _ hb
        obtain ⟨e, t1, d1, s1⟩ := o1
        by_cases he : ∃ l, e = .goto l
        · obtain ⟨l, rfl⟩ := he
          simp only at h
          split at h
          · rename_i rest hfl
            obtain ⟨b1, b2⟩ := ihS _ _ _ _ _ _ h
            refine ⟨a1.trans b1, fun ρ w xs ds F hf hR hF ht hd => wpScope_of (wpIn_mono (a2 ρ w xs ds F hf hR (hF.sub (Nat.le_refl _) b1.n) ht hd) fun x a w' hfin => ?_)⟩
            obtain ⟨ρ1, c1, c2, c3, c4, c5⟩ := hfin
            have c5 : x = .goto l := c5
            subst c5
            obtain ⟨xs1, ds1⟩ := a
            exact ⟨rest, hfl, wpScope_mono (b2 ρ1 w' xs1 ds1 F (hf.mono c1.le) c2 (hF.ext c1 a1.n) c3 c4) fun x a w'' hfin => hfin.ext c1 a1 b1⟩
          · cases h
        · have hh : some (⟨e, t1, d1, s1⟩ : Out) = some out := by
            cases e with
            | goto l => exact absurd ⟨l, rfl⟩ he
            | _ => exact h
          cases hh
          refine ⟨a1, fun ρ w xs ds F hf hR hF ht hd => wpScope_of (wpIn_mono (a2 ρ w xs ds F hf hR hF ht hd) fun x a w' hfin => ?_)⟩
          have hfin' := hfin
          obtain ⟨ρ1, c1, c2, c3, c4, c5⟩ := hfin
          cases x with
          | goto l =>
            exfalso
            simp only at c5
            cases e with
            | goto l' => exact he ⟨_, rfl⟩
            | panic v => obtain ⟨_, c6, _⟩ := c5; cases c6
            | _ => cases c5
          | _ => exact hfin'
end
end Go.Ev

/- Calls that are put off, and what a frame does when it is left. -/
namespace Go.Ev

/-- How a frame is left, in the program's words. -/
def MdRel (ρ : Ren) : Md → FrameMode → Prop
  | .out, u => u = .returning
  | .pan v, u => ∃ v', u = .panicking [{ v := v', recovered := false }] ∧ VRel ρ v v'
  | .rec_ v, u => ∃ v', u = .panicking [{ v := v', recovered := true }] ∧ VRel ρ v v'
theorem MdRel.mono {ρ ρ' : Ren} (h : ρ.le ρ') {m : Md} {u : FrameMode} (hm : MdRel ρ m u) : MdRel ρ' m u := by
  cases m with
  | out => exact hm
  | pan v => obtain ⟨v', h1, h2⟩ := hm; exact ⟨v', h1, h2.mono h⟩
  | rec_ v => obtain ⟨v', h1, h2⟩ := hm; exact ⟨v', h1, h2.mono h⟩
def settleM : Md → Md
  | .rec_ _ => .out
  | m => m
theorem settle_rel {ρ : Ren} {m : Md} {u : FrameMode} (hm : MdRel ρ m u) : MdRel ρ (settleM m) (settle u) := by
  cases m with
  | out => cases hm; rfl
  | pan v => obtain ⟨v', rfl, h2⟩ := hm; exact ⟨v', rfl, h2⟩
  | rec_ v => obtain ⟨v', rfl, h2⟩ := hm; rfl

/-- 'Leaves', with the marks of the ranges over functions. -/
def LeavesX (P : Program) (fn : Func) (tmps : Array Value) (R : Ending → World → Prop) : List Deferred → FrameMode → World → Prop
  | [], .returning, w => ∃ v, (results fn tmps).run P w = .ok v w ∧ R (.returned v) w
  | [], .panicking chain, w => R (.panicked chain) w
  | [], .run, _ => False
  | d :: ds, u, w => u ≠ .run ∧ ((∃ r w', d.target = .collected r ∧ (Instr.takeDeferred r).run P w = .ok [] w' ∧ LeavesX P fn tmps R ds u w') ∨
      ∃ fv cap f args, d.target = .fn fv cap ∧ (invoke d.target d.args).run P w = .ok (.enter f args) w ∧
      CallsD P f args u w fun
        | .returned _, u', w' => LeavesX P fn tmps R ds (settle u') w'
        | .panicked chain, u', w' => LeavesX P fn tmps R ds (raised u' chain) w'
        | .outgrown, _, w' => R .outgrown w')
section
variable {P : Program}
theorem LeavesX.mono {fn : Func} {tmps : Array Value} {R R' : Ending → World → Prop} (hr : ∀ e w, R e w → R' e w) : ∀ (ds : List Deferred) (u : FrameMode) (w : World), LeavesX P fn tmps R ds u w → LeavesX P fn tmps R' ds u w := by
  intro ds
  induction ds with
  | nil =>
    intro u w h
    cases u with
    | run => exact h
    | returning => obtain ⟨v, h1, h2⟩ := h; exact ⟨v, h1, hr _ _ h2⟩
    | panicking chain => exact hr _ _ h
  | cons d ds ih =>
    intro u w h
    obtain ⟨h1, h2⟩ := h
    refine ⟨h1, ?_⟩
    rcases h2 with ⟨r, w', a, b, c⟩ | ⟨fv, cap, f, args, a, b, c⟩
    · exact .inl ⟨r, w', a, b, ih _ _ c⟩
    · refine .inr ⟨fv, cap, f, args, a, b, CallsD.mono c fun e u' w' he => ?_⟩
      cases e with
      | returned v => exact ih _ _ he
      | panicked ch => exact ih _ _ he
      | outgrown => exact hr _ _ he
theorem step_collected {fr : Frame} {cs : List Frame} {w w' : World} {r : Nat} {as : Array Value} {ds : List Deferred} (hm : fr.mode ≠ .run) (hd : fr.defers = { target := .collected r, args := as } :: ds)
    (hi : (Instr.takeDeferred r).run P w = .ok [] w') : step P (lone fr cs w) = .next (lone { fr with defers := ds } cs w') := by
  refine step_lone_go ?_
  cases hmode : fr.mode with
  | run => exact absurd hmode hm
  | returning => simp [stepG, unwind, hmode, hd, Sem.runT_eq, hi, GStep.bare_after]
  | panicking chain => simp [stepG, unwind, hmode, hd, Sem.runT_eq, hi, GStep.bare_after]
theorem leavesX_steps {fn : Func} {tmps : Array Value} {R : Ending → World → Prop} : ∀ (ds : List Deferred) (u : FrameMode) (w : World) (fr : Frame)
    (cs : List Frame), fr.mode = u → fr.defers = ds → fr.tmps = tmps → P.funcs[fr.fn]? = some fn → fr.kind = .normal → LeavesX P fn tmps R ds u w →
    ∃ e w' fr', R e w' ∧ Comes P (lone fr cs w) (lone fr' cs w') e ∧ fr'.fn = fr.fn ∧ fr'.leaving P w' e := by
  intro ds
  induction ds with
  | nil =>
    intro u w fr cs hu hd ht hf hk h
    cases u with
    | run => exact h.elim
    | returning =>
      obtain ⟨v, hr, hR⟩ := h
      exact ⟨.returned v, w, fr, hR, Steps.refl P _, rfl, hu, hd, hk, fn, hf, ht ▸ hr⟩
    | panicking chain => exact ⟨.panicked chain, w, fr, h, Steps.refl P _, rfl, hu, hd, fn, hf⟩
  | cons d ds ih =>
    intro u w fr cs hu hd ht hf hk h
    obtain ⟨hrun, h⟩ := h
    rcases h with ⟨r, w', htar, hinv, hrest⟩ | ⟨fv, cap, f, args, htar, hinv, hcall⟩
    · obtain ⟨tg, as⟩ := d
      simp only at htar; subst htar
      have h1 := step_collected (P := P) (cs := cs) (hu ▸ hrun) hd hinv
      obtain ⟨e', w'', fr', hR', hs', hfn', hl'⟩ := ih u w' { fr with defers := ds } cs hu rfl ht hf hk hrest
      exact ⟨e', w'', fr', hR', Comes.of_steps (.one h1) hs', hfn', hl'⟩
    have h1 := step_defer (cs := cs) (hu ▸ hrun) hd htar hinv
    obtain ⟨e, u', w', frX, hR, hsteps, hkX, hgo⟩ := hcall { fr with defers := ds } cs hu
    cases e with
    | returned v =>
      have h2 := step_going_returned (c := { { fr with defers := ds } with mode := u' }) (cs := cs) hkX hgo
      obtain ⟨e', w'', fr', hR', hs', hfn', hl'⟩ := ih (settle u') w' { { { fr with defers := ds } with mode := u' } with mode := settle u' } cs rfl rfl ht hf hk hR
      exact ⟨e', w'', fr', hR', Comes.of_steps (.head h1 (Steps.trans hsteps (.one h2))) hs', hfn', hl'⟩
    | panicked chain =>
      have h2 := step_going_panicked (c := { { fr with defers := ds } with mode := u' }) (cs := cs) hgo
      obtain ⟨e', w'', fr', hR', hs', hfn', hl'⟩ := ih (raised u' chain) w' { { { fr with defers := ds } with mode := u' } with mode := raised u' chain } cs rfl rfl ht hf hk hR
      exact ⟨e', w'', fr', hR', Comes.of_steps (.head h1 (Steps.trans hsteps (.one h2))) hs', hfn', hl'⟩
    | outgrown => exact ⟨.outgrown, w', fr, hR, Outgrown.of_steps (.one h1) hsteps, rfl, trivial⟩
def bodyPostX (P : Program) (fn : Func) (R : Ending → World → Prop) : Exit → Act → World → Prop
  | .normal, a, w | .ret, a, w => LeavesX P fn a.tmps R a.defers .returning w
  | .panic chain, a, w => LeavesX P fn a.tmps R a.defers (.panicking chain) w
  | .outgrown, _, w => R .outgrown w
  | _, _, _ => False
theorem calls_of_wp_leaves {f : FuncId} {fn : Func} {c : Code} {args : Array Value} {w : World} {R : Ending → World → Prop}
    (hf : P.funcs[f]? = some fn) (hb : fn.body = some c)
    (h : c.wp P (bodyPostX P fn R) { tmps := args ++ Array.replicate (fn.ntmps - args.size) undef, defers := [] } w) : Calls P f args w R := by
  intro cs
  let b : Frame := { (default : Frame) with fn := f, kind := .normal }
  have henter : Frame.enter P f args .normal =
      b.at { tmps := args ++ Array.replicate (fn.ntmps - args.size) undef, defers := [] } [.code c] := by
    simp [Frame.enter, Frame.at, hf, hb, b]
  obtain ⟨e, a', w', hq, harr⟩ := h b [] cs
  rw [← henter] at harr
  cases e with
  | normal =>
    obtain ⟨e', w'', fr', hR, hs, hfn, hl⟩ := leavesX_steps a'.defers .returning w' { b.at a' [] with mode := .returning } cs rfl rfl rfl hf rfl hq
    exact ⟨e', w'', fr', hR, Comes.of_steps (Steps.trans harr (.one step_end)) hs, hfn, hl⟩
  | ret =>
    obtain ⟨todo, hs₀⟩ := harr
    obtain ⟨e', w'', fr', hR, hs, hfn, hl⟩ := leavesX_steps a'.defers .returning w' { b.at a' todo with mode := .returning } cs rfl rfl rfl hf rfl hq
    exact ⟨e', w'', fr', hR, Comes.of_steps hs₀ hs, hfn, hl⟩
  | panic chain =>
    obtain ⟨todo, hs₀⟩ := harr
    obtain ⟨e', w'', fr', hR, hs, hfn, hl⟩ := leavesX_steps a'.defers (.panicking chain) w' { b.at a' todo with mode := .panicking chain } cs rfl rfl rfl hf rfl hq
    exact ⟨e', w'', fr', hR, Comes.of_steps hs₀ hs, hfn, hl⟩
  | exit id => exact hq.elim
  | goto l => exact hq.elim
  | outgrown => exact ⟨.outgrown, w', b, hq, harr.resolve_left (by simp [b]), rfl, trivial⟩
end

section
variable {P : Program} {call : CallF} {nt : Nat}

/-- What one result's variable holds. -/
def rvF (xs : Array Value) : ResultVar → Sem Value
  | .tmp t => pure (xs.getD t undef)
  | .cell a t => do loadVar t (← asAddr (xs.getD a undef))
theorem results_eq (fn : Func) (xs : Array Value) : results fn xs = (do
    let vs ← fn.results.mapM (rvF xs)
    pure (if h : vs.size = 1 then vs[0] else .tuple vs)) := by
  unfold results
  congr 1
/-- What a frame hands back. -/
theorem resF_sound {ρ : Ren} {w : World} {t : Tri Value} {xs : Array Value} {s : St} (hR : Rel P ρ (rdS s) w) (ht : TRel ρ t nt xs) : ∀ (l : List ResultVar) (vs : List Value), resF P t s l = some vs →
    ∃ vs', (l.mapM (rvF xs)).run P w = .ok vs' w ∧ LRel ρ vs vs' := by
  intro l
  induction l with
  | nil => intro vs h; simp [resF] at h; subst h; exact ⟨[], by simp, .nil⟩
  | cons r l ih =>
    intro vs h
    simp only [resF] at h
    split at h
    · rename_i v hv
      split at h
      · rename_i vs0 hvs
        cases h
        obtain ⟨vs', e1, e2⟩ := ih _ hvs
        have hhead : ∃ v', (rvF xs r).run P w = .ok v' w ∧ VRel ρ v v' := by
          cases r with
          | tmp i =>
            simp only at hv
            have := opv_rel (a := ⟨xs, []⟩) (P := P) (x := .tmp i) (v := v) hR ht (by simp only [Ev.opv]; cases hg : t.get i <;> rw [hg] at hv <;> exact hv)
            exact ⟨_, rfl, this⟩
          | cell i ty =>
            simp only at hv
            split at hv
            · rename_i a k hti htk
              have hti' := opv_rel (a := ⟨xs, []⟩) (P := P) (x := .tmp i) (v := .pointer (some a)) hR ht (by simp [Ev.opv, hti])
              obtain ⟨a', ha'⟩ : ∃ a', (⟨xs, []⟩ : Act).eval (.tmp i) = .pointer (some a') := by
                generalize (⟨xs, []⟩ : Act).eval (.tmp i) = y at hti'
                cases hti' with
                | ptr _ _ l e => exact ⟨_, rfl⟩
              rw [ha'] at hti'
              obtain ⟨v', g1, g2⟩ := loadA_sound hR (fun _ _ h => h) hv htk hti'
              refine ⟨v', ?_, g2⟩
              have : xs.getD i undef = .pointer (some a') := ha'
              simp [rvF, this, asAddr, g1]
            · cases hv
        obtain ⟨v', g1, g2⟩ := hhead
        refine ⟨v' :: vs', ?_, .cons _ _ _ _ g2 e2⟩
        rw [List.mapM_cons]
        simp only [Sem.run_bind, g1, Result.andThen_ok, e1, Sem.run_pure]
      · cases h
    · cases h
theorem results_sound {ρ : Ren} {w : World} {t : Tri Value} {xs : Array Value} {s : St} {fn : Func} {vs : List Value} (hR : Rel P ρ (rdS s) w) (ht : TRel ρ t nt xs) (h : resF P t s fn.results.toList = some vs) :
    ∃ v', (results fn xs).run P w = .ok v' w ∧ VRel ρ (tupF vs) v' := by
  obtain ⟨vs', h1, h2⟩ := resF_sound hR ht _ _ h
  have hm : (fn.results.mapM (rvF xs)).run P w = .ok ⟨vs'⟩ w := by
    rw [Array.mapM_eq_mapM_toList]
    rw [Sem.run_map]
    rw [h1]; rfl
  have hv : ∃ v', (if h : (⟨vs'⟩ : Array Value).size = 1 then (⟨vs'⟩ : Array Value)[0] else Value.tuple ⟨vs'⟩) = v' ∧ VRel ρ (tupF vs) v' := by
    cases h2 with
    | nil => exact ⟨_, rfl, .tuple _ _ .nil⟩
    | cons v v' l l' e1 e2 =>
      cases e2 with
      | nil => exact ⟨_, rfl, e1⟩
      | cons v2 v2' l2 l2' e3 e4 =>
        refine ⟨_, rfl, ?_⟩
        rw [dif_neg (by simp)]
        exact .tuple _ _ (.cons _ _ _ _ e1 (.cons _ _ _ _ e3 e4))
  obtain ⟨v', e1, e2⟩ := hv
  refine ⟨v', ?_, e2⟩
  rw [results_eq]
  simp only [Sem.run_bind, Sem.run_pure]
  rw [hm]
  simp only [Result.andThen_ok]
  rw [e1]
end
end Go.Ev

/- Calls that are put off are sound. -/
namespace Go.Ev
section
variable {P : Program} {call : CallF} {nt : Nat}

theorem store_run {ev : Operand → Option Value} {s : St} {o : Oper} {c : COut} {t : TypeId} {a x : Operand} (hop : o.op = .store t a x) (hq : effOp P call ev s o = some c) : ∃ s1, c = ⟨.ret undef, s1⟩ ∧ StLe s s1 ∧
    ∀ ρ w (ev' : Operand → Value), Rel P ρ (rdS s) w → (∀ v, ev a = some v → VRel ρ v (ev' a)) → (∀ v, ev x = some v → VRel ρ v (ev' x)) →
      ∃ w', (execOp ev' o).run P w = .ok .skip w' ∧ Ext ρ (rdS s) w s.n s1.n ρ (rdS s1) w' ∧ Rel P ρ (rdS s1) w' := by
  simp only [effOp, hop] at hq
  split at hq
  · rename_i a0 v n hea hex hsz
    split at hq
    · rename_i hlen
      have hlen : (cellsV v).length = n := Nat.eq_of_beq_eq_true hlen
      split at hq
      · rename_i s1 hst
        cases hq
        refine ⟨s1, rfl, storeA_le hst, fun ρ w ev' hR ha hx => ?_⟩
        have h1 := ha _ hea
        have h2 := hx _ hex
        obtain ⟨ab, ao, asp⟩ := a0
        cases asp with
        | some _ => simp [storeA] at hst
        | none =>
          obtain ⟨lc, e1, e2⟩ : ∃ lc, ρ ab = some lc ∧ ev' a = .pointer (some ⟨lc.b, lc.o + ao, none⟩) := by
            generalize ev' a = a' at h1
            cases h1 with
            | ptr _ _ l e => exact ⟨l, e, rfl⟩
          have hcl := cellsV_rel h2
          obtain ⟨w', r1, r2, r3⟩ := storeA_sound hR hst e1 hcl
          have hsz' : (ev' x).cells.size = n := by rw [← hlen, ← hcl.length]; simp
          exact ⟨w', by simp [execOp, hop, Instr.storeAt, Instr.sureAddr, e2, storeVar, run_size hsz, hsz', r1], r2, r3⟩
      · cases hq
    · cases hq
  · cases hq

/-- What holds where a deferred call's code is left. -/
def FinS (P : Program) (nt : Nat) (ρ : Ren) (s : St) (w : World) (c : Frame) (cs : List Frame) (e : Ex) (t' : Tri Value) (m' : Md) (s' : St) (x : Exit) (a : Act) (cs' : List Frame) (w' : World) : Prop :=
  ∃ ρ' u', Ext ρ (rdS s) w s.n s'.n ρ' (rdS s') w' ∧ Rel P ρ' (rdS s') w' ∧ TRel ρ' t' nt a.tmps ∧ a.defers = [] ∧ cs' = { c with mode := u' } :: cs ∧ MdRel ρ' m' u' ∧ XRel ρ' e x
theorem FinS.ext {ρ ρ1 : Ren} {s s1 : St} {w w1 : World} {c : Frame} {cs : List Frame} {e : Ex} {t' : Tri Value} {m' : Md} {s' : St} {x : Exit} {a : Act} {cs' : List Frame} {w' : World} (h : Ext ρ (rdS s) w s.n s1.n ρ1 (rdS s1) w1) (h1 : StLe s s1) (h2 : StLe s1 s')
    (hf : FinS P nt ρ1 s1 w1 c cs e t' m' s' x a cs' w') : FinS P nt ρ s w c cs e t' m' s' x a cs' w' := by
  obtain ⟨ρ2, u', a1, a2⟩ := hf
  exact ⟨ρ2, u', h.trans a1 h1.n h2.n, a2⟩

theorem rec_run {o : Oper} (h : isRec o = true) (ev' : Operand → Value) (w : World) : (execOp ev' o).run P w = .ok .recover w := by
  unfold isRec at h
  split at h
  · rename_i c hop
    split at h
    · rename_i hc
      simp [execOp, hop, resolve, hc, invoke, builtin]
    · cases h
  · cases h

theorem opsR_sound (hc : CallOk P call) {ops : Array Oper} : ∀ (l : List Oper) (t : Tri Value) (m : Md) (s : St) (t' : Tri Value) (m' : Md) (s' : St), opsR P call nt ops.toList l t m s = some (t', m', s') →
    StLe s s' ∧ ∀ ρ w xs u c cs is Q, IL ops is l → Rel P ρ (rdS s) w → Fresh ρ s.n s'.n → TRel ρ t nt xs → MdRel ρ m u → (∀ a cs' w', FinS P nt ρ s w c cs .normal t' m' s' .normal a cs' w' → Q .normal a cs' w') →
      wpOpsS P ops Q is ⟨xs, []⟩ ({ c with mode := u } :: cs) w := by
  intro l
  induction l with
  | nil =>
    intro t m s t' m' s' h
    simp only [opsR] at h
    cases h
    refine ⟨StLe.refl _, fun ρ w xs u c cs is Q hil hR hF ht hm hQ => ?_⟩
    cases hil
    exact hQ _ _ _ ⟨ρ, u, Ext.refl _ _ _ _, hR, ht, rfl, rfl, hm, rfl⟩
  | cons o l ih =>
    intro t m s t' m' s' h
    simp only [opsR] at h
    have skip : ∀ t1, wantF ops.toList t o = false → putT nt t o.dst undef = some t1 → opsR P call nt ops.toList l t1 m s = some (t', m', s') →
        StLe s s' ∧ ∀ ρ w xs u c cs is Q, IL ops is (o :: l) → Rel P ρ (rdS s) w → Fresh ρ s.n s'.n → TRel ρ t nt xs → MdRel ρ m u → (∀ a cs' w', FinS P nt ρ s w c cs .normal t' m' s' .normal a cs' w' → Q .normal a cs' w') →
        wpOpsS P ops Q is ⟨xs, []⟩ ({ c with mode := u } :: cs) w := by
      intro t1 hw ht1 hrest
      obtain ⟨b1, b2⟩ := ih _ _ _ _ _ _ hrest
      refine ⟨b1, fun ρ w xs u c cs is Q hil hR hF ht hm hQ => ?_⟩
      cases hil with
      | cons i _ is _ hi hil =>
        simp only [wpOpsS, hi]
        rw [wantF_rel ht, hw]
        simp only [Bool.false_eq_true, if_false]
        have := b2 ρ w ((⟨xs, []⟩ : Act).put o.dst undef).tmps u c cs is Q hil hR hF (putT_rel (a := ⟨xs, []⟩) ht undef_rel ht1) hm hQ
        have e : ((⟨xs, []⟩ : Act).put o.dst undef) = ⟨((⟨xs, []⟩ : Act).put o.dst undef).tmps, []⟩ := by cases o.dst <;> rfl
        rw [e]; exact this
    cases hr : isRec o with
    | true =>
      rw [hr] at h
      simp only at h
      cases hw : wantF ops.toList t o with
      | false =>
        rw [hw] at h
        simp only at h
        split at h
        · rename_i t1 ht1; exact skip t1 hw ht1 h
        · cases h
      | true =>
        rw [hw] at h
        simp only at h
        have hrecv : ∀ v m1 t1, putT nt t o.dst v = some t1 → opsR P call nt ops.toList l t1 m1 s = some (t', m', s') → (∀ ρ u, MdRel ρ m u → ∀ c : Frame, ∀ cs, ∃ v' u1, VRel ρ v v' ∧ MdRel ρ m1 u1 ∧
              ((recoverD ({ c with mode := u } :: cs) = some (v', { c with mode := u1 } :: cs)) ∨ (recoverD ({ c with mode := u } :: cs) = none ∧ v' = .nilIface ∧ u1 = u))) →
            StLe s s' ∧ ∀ ρ w xs u c cs is Q, IL ops is (o :: l) → Rel P ρ (rdS s) w → Fresh ρ s.n s'.n → TRel ρ t nt xs → MdRel ρ m u → (∀ a cs' w', FinS P nt ρ s w c cs .normal t' m' s' .normal a cs' w' → Q .normal a cs' w') →
            wpOpsS P ops Q is ⟨xs, []⟩ ({ c with mode := u } :: cs) w := by
          intro v m1 t1 ht1 hrest hrec
          obtain ⟨b1, b2⟩ := ih _ _ _ _ _ _ hrest
          refine ⟨b1, fun ρ w xs u c cs is Q hil hR hF ht hm hQ => ?_⟩
          cases hil with
          | cons i _ is _ hi hil =>
            simp only [wpOpsS, hi]
            rw [wantF_rel ht, hw]
            simp only [if_true]
            rw [rec_run hr]
            simp only
            obtain ⟨v', u1, g1, g2, g3⟩ := hrec ρ u hm c cs
            have key := b2 ρ w ((⟨xs, []⟩ : Act).put o.dst v').tmps u1 c cs is Q hil hR hF (putT_rel (a := ⟨xs, []⟩) ht g1 ht1) g2 hQ
            have e : ((⟨xs, []⟩ : Act).put o.dst v') = ⟨((⟨xs, []⟩ : Act).put o.dst v').tmps, []⟩ := by cases o.dst <;> rfl
            rcases g3 with g3 | ⟨g3, g4, g5⟩
            · rw [g3]; simp only; rw [e]; exact key
            · rw [g3]; simp only; subst g4; subst g5; rw [e]; exact key
        cases m with
        | pan v =>
          simp only at h
          split at h
          · rename_i t1 ht1
            exact hrecv v (.rec_ v) t1 ht1 h fun ρ u hm c cs => by
              obtain ⟨v', rfl, hv⟩ := hm
              exact ⟨v', .panicking [{ v := v', recovered := true }], hv, ⟨v', rfl, hv⟩, .inl rfl⟩
          · cases h
        | out =>
          simp only at h
          split at h
          · rename_i t1 ht1
            exact hrecv .nilIface .out t1 ht1 h fun ρ u hm c cs => by
              cases hm
              exact ⟨.nilIface, _, .nilIface, rfl, .inr ⟨rfl, rfl, rfl⟩⟩
          · cases h
        | rec_ v =>
          simp only at h
          split at h
          · rename_i t1 ht1
            exact hrecv .nilIface (.rec_ v) t1 ht1 h fun ρ u hm c cs => by
              have hm' := hm
              obtain ⟨v', rfl, hv⟩ := hm
              exact ⟨.nilIface, _, .nilIface, hm', .inr ⟨rfl, rfl, rfl⟩⟩
          · cases h
    | false =>
      rw [hr] at h
      simp only at h
      split at h
      · cases h
      · rename_i hlight
        split at h
        · rename_i t1 s1 h1
          obtain ⟨b1, b2⟩ := ih _ _ _ _ _ _ h
          obtain ⟨a1, _⟩ := opF_sound hc h1
          simp only [Step.out] at a1
          cases hw : wantF ops.toList t o with
          | false =>
            unfold opF at h1
            rw [hw] at h1
            simp only at h1
            split at h1
            · rename_i t2 ht2; cases h1; exact skip _ hw ht2 h
            · cases h1
          | true =>
            refine ⟨a1.trans b1, fun ρ w xs u c cs is Q hil hR hF ht hm hQ => ?_⟩
            have hF1 : Fresh ρ s.n s1.n := hF.sub (Nat.le_refl _) b1.n
            have hrun : ∃ v' w' ρ', ((execOp (⟨xs, []⟩ : Act).eval o).run P w = .ok (.value v') w' ∨ (v' = undef ∧ (execOp (⟨xs, []⟩ : Act).eval o).run P w = .ok .skip w')) ∧
                Ext ρ (rdS s) w s.n s1.n ρ' (rdS s1) w' ∧ Rel P ρ' (rdS s1) w' ∧ TRel ρ' t1 nt ((⟨xs, []⟩ : Act).put o.dst v').tmps := by
              unfold opF at h1
              rw [hw] at h1
              simp only at h1
              have hev : ∀ x ∈ o.op.operands, ∀ v, opv P t x = some v → VRel ρ v ((⟨xs, []⟩ : Act).eval x) := fun x _ v hv => opv_rel (a := ⟨xs, []⟩) hR ht hv
              cases he : isEff o with
              | false =>
                rw [he] at h1
                simp only at h1
                split at h1
                · rename_i po hpo
                  split at h1
                  · rename_i t2 ht2
                    cases h1
                    have hp := pureOp_sound (ev' := (⟨xs, []⟩ : Act).eval) hR (fun _ _ h => h) hpo hev
                    have hp2 := hp.eok hR hF1
                    cases po with
                    | val v =>
                      obtain ⟨v', g1, g2⟩ := hp
                      rw [g1] at hp2
                      obtain ⟨ρ', p1, p2, p3⟩ := hp2
                      exact ⟨v', w, ρ', .inl g1, p1, p2, putT_rel (a := ⟨xs, []⟩) (ht.mono p1.le) p3 ht2⟩
                    | new ob nv =>
                      obtain ⟨v', w', _, _, g1, _⟩ := hp
                      rw [g1] at hp2
                      obtain ⟨ρ', p1, p2, p3⟩ := hp2
                      exact ⟨v', w', ρ', .inl g1, p1, p2, putT_rel (a := ⟨xs, []⟩) (ht.mono p1.le) p3 ht2⟩
                  · cases h1
                · split at h1
                  · split at h1 <;> cases h1
                  · cases h1
              | true =>
                rw [he] at h1 hlight
                simp only at h1 hlight
                unfold isStore at hlight
                split at hlight
                · rename_i ty ax x hop
                  split at h1
                  · rename_i v s2 hef
                    split at h1
                    · rename_i t2 ht2
                      cases h1
                      obtain ⟨s3, e1, e2, e3⟩ := store_run hop hef
                      cases e1
                      obtain ⟨w', g1, g2, g3⟩ := e3 ρ w (⟨xs, []⟩ : Act).eval hR (hev ax (by simp [hop, Op.operands])) (hev x (by simp [hop, Op.operands]))
                      exact ⟨undef, w', ρ, .inr ⟨rfl, g1⟩, g2, g3, putT_rel (a := ⟨xs, []⟩) ht undef_rel ht2⟩
                    · cases h1
                  · cases h1
                  · cases h1
                · cases hlight
            obtain ⟨v', w', ρ', g1, g2, g3, g4⟩ := hrun
            cases hil with
            | cons i _ is _ hi hil =>
              simp only [wpOpsS, hi]
              rw [wantF_rel ht, hw]
              simp only [if_true]
              have key := b2 ρ' w' ((⟨xs, []⟩ : Act).put o.dst v').tmps u c cs is Q hil g3 (hF.ext g2 a1.n) g4 (hm.mono g2.le) (fun a cs' w'' hfin => hQ a cs' w'' (hfin.ext g2 a1 b1))
              have e : ((⟨xs, []⟩ : Act).put o.dst v') = ⟨((⟨xs, []⟩ : Act).put o.dst v').tmps, []⟩ := by cases o.dst <;> rfl
              rcases g1 with g1 | ⟨rfl, g1⟩
              · rw [g1]; simp only [Oper.upon]; rw [e]; exact key
              · rw [g1]; simp only [Oper.upon]; rw [e]; exact key
        · cases h

theorem finS_then {ρ : Ren} {s : St} {w : World} {c : Frame} {cs : List Frame} {e : Ex} {t' : Tri Value} {m' : Md} {s' : St} {x : Exit} {a : Act} {cs' : List Frame} {w' : World} {K : Act → List Frame → World → Prop} {Q : Exit → Act → List Frame → World → Prop}
    (h : FinS P nt ρ s w c cs e t' m' s' x a cs' w') (he : e ≠ .normal) (hQ : Q x a cs' w') : Exit.thenS K Q x a cs' w' := by
  cases x with
  | normal =>
    obtain ⟨ρ', u', _, _, _, _, _, _, h5⟩ := h
    cases e with
    | normal => exact absurd rfl he
    | panic v => obtain ⟨_, h6, _⟩ := h5; cases h6
    | _ => cases h5
  | _ => exact hQ
theorem wpS_mono {c : Code} {Q Q' : Exit → Act → List Frame → World → Prop} {a : Act} {cs : List Frame} {w : World} (h : c.wpS P Q a cs w) (hq : ∀ e a cs w, Q e a cs w → Q' e a cs w) : c.wpS P Q' a cs w :=
  fun b k hb hr => let ⟨e, a', cs', w', q, r⟩ := h b k hb hr; ⟨e, a', cs', w', hq _ _ _ _ q, r⟩

theorem codeR_sound (hm : P.follows .mixedOrders = true) (hN : NoCount P) (hc : CallOk P call) {n : Nat} : ∀ (c : Code) (t : Tri Value) (m : Md) (s : St) (e : Ex) (t' : Tri Value) (m' : Md) (s' : St), codeR P call nt n c t m s = some (e, t', m', s') →
    StLe s s' ∧ ∀ ρ w xs u c₀ cs, Rel P ρ (rdS s) w → Fresh ρ s.n s'.n → TRel ρ t nt xs → MdRel ρ m u →
      c.wpS P (FinS P nt ρ s w c₀ cs e t' m' s') ⟨xs, []⟩ ({ c₀ with mode := u } :: cs) w := by
  intro c
  have other : ∀ (c : Code) (t : Tri Value) (m : Md) (s : St) (e : Ex) (t' : Tri Value) (m' : Md) (s' : St), (match codeF P call none nt n c t [] s with | some ⟨e, t', [], s'⟩ => some (e, t', m, s') | _ => none) = some (e, t', m', s') →
      StLe s s' ∧ ∀ ρ w xs u c₀ cs, Rel P ρ (rdS s) w → Fresh ρ s.n s'.n → TRel ρ t nt xs → MdRel ρ m u →
        c.wpS P (FinS P nt ρ s w c₀ cs e t' m' s') ⟨xs, []⟩ ({ c₀ with mode := u } :: cs) w := by
    intro c t m s e t' m' s' h
    split at h
    · rename_i e1 t1 s1 hcode
      cases h
      obtain ⟨a1, a2⟩ := (code_sound hm hN hc n).1 _ _ _ _ _ hcode
      refine ⟨a1, fun ρ w xs u c₀ cs hR hF ht hmd => wpS_of_wp (wpIn_wide.1 (wpIn_mono (a2 ρ w xs [] Fence.wide rfl hR hF ht .nil) fun x a w' hfin => ?_))⟩
      obtain ⟨ρ', p1, p2, p3, p4, p5⟩ := hfin
      exact ⟨ρ', u, p1, p2, p3, (by generalize a.defers = ad at p4; cases p4; rfl), rfl, hmd.mono p1.le, p5⟩
    · cases h
  induction c with
  | seq x y ihx ihy =>
    intro t m s e t' m' s' h
    simp only [codeR] at h
    cases hb : codeR P call nt n x t m s with
    | none => rw [hb] at h; cases h
    | some o1 =>
      rw [hb] at h
      obtain ⟨e1, t1, m1, s1⟩ := o1
      obtain ⟨a1, a2⟩ := ihx _ _ _ _ _ _ _ hb
      by_cases he : e1 = .normal
      · subst he
        simp only at h
        obtain ⟨b1, b2⟩ := ihy _ _ _ _ _ _ _ h
        refine ⟨a1.trans b1, fun ρ w xs u c₀ cs hR hF ht hmd => wpS_seq (wpS_mono (a2 ρ w xs u c₀ cs hR (hF.sub (Nat.le_refl _) b1.n) ht hmd) fun x a cs' w' hfin => ?_)⟩
        obtain ⟨ρ1, u1, p1, p2, p3, p4, p5, p6, p7⟩ := hfin
        cases p7
        obtain ⟨xs1, ds1⟩ := a
        simp only at p4 p3
        subst p4
        subst p5
        exact wpS_mono (b2 ρ1 w' xs1 u1 c₀ cs p2 (hF.ext p1 a1.n) p3 p6) fun x a cs'' w'' hfin => hfin.ext p1 a1 b1
      · have hh : some (e1, t1, m1, s1) = some (e, t', m', s') := by
          cases e1 with
          | normal => exact absurd rfl he
          | _ => exact h
        cases hh
        exact ⟨a1, fun ρ w xs u c₀ cs hR hF ht hmd => wpS_seq (wpS_mono (a2 ρ w xs u c₀ cs hR hF ht hmd) fun x a cs' w' hfin => finS_then hfin he hfin)⟩
  | region id ops draw =>
    intro t m s e t' m' s' h
    cases draw with
    | true => simp only [codeR] at h; exact other _ _ _ _ _ _ _ _ h
    | false =>
      simp only [codeR] at h
      split at h
      · rename_i t1 m1 s1 hops
        cases h
        obtain ⟨a1, a2⟩ := opsR_sound hc _ _ _ _ _ _ _ hops
        exact ⟨a1, fun ρ w xs u c₀ cs hR hF ht hmd => wpS_region (a2 ρ w xs u c₀ cs _ _ (IL.all ops) hR hF ht hmd fun a cs' w' hfin => hfin)⟩
      · cases h
  | _ => intro t m s e t' m' s' h; simp only [codeR] at h; exact other _ _ _ _ _ _ _ _ h

theorem lenL_eq {α : Type} (l : List α) : lenL l = l.length := by
  induction l with
  | nil => rfl
  | cons a l ih => simp only [lenL, ih, List.length_cons]; exact Nat.add_comm _ _
theorem argsT_rel {ρ : Ren} {args args' : List Value} (h : LRel ρ args args') (n : Nat) : TRel ρ (argsT args) (Nat.max n (lenL args)) ((⟨args'⟩ : Array Value) ++ Array.replicate (n - (⟨args'⟩ : Array Value).size) undef) := by
  have hl := h.length
  have hs : (⟨args'⟩ : Array Value).size = args.length := hl
  have hmax : Nat.max n (lenL args) = max n args.length := by rw [lenL_eq]
  refine ⟨?_, fun i hi => ?_, fun i hi => ?_⟩
  · rw [Array.size_append, Array.size_replicate, hs, hmax]; omega
  · unfold argsT
    rw [rowOf_get]
    rcases Nat.lt_or_ge i args.length with hlt | hge
    · obtain ⟨v', e1, e2⟩ := h.get i args[i] (List.getElem?_eq_getElem hlt)
      refine ⟨v', ?_, by rw [List.getElem?_eq_getElem hlt]; exact e2⟩
      rw [Array.getElem?_append_left (by rw [hs]; exact hlt)]
      rw [← Array.getElem?_toList]; exact e1
    · refine ⟨undef, ?_, by rw [List.getElem?_eq_none hge]; exact undef_rel⟩
      rw [Array.getElem?_append_right (by rw [hs]; exact hge), Array.getElem?_replicate, if_pos]
      rw [hmax] at hi; rw [hs]; omega
  · unfold argsT
    rw [rowOf_get, List.getElem?_eq_none]
    rw [hmax] at hi; omega

/-- One call that was put off. -/
theorem deferF_sound (hm : P.follows .mixedOrders = true) (hN : NoCount P) (hc : CallOk P call) {fuel : Nat} {f : FuncId} {args : List Value} {m : Md} {s : St} {m' : Md} {s' : St} (hq : deferF P call fuel f args m s = some (m', s')) :
    StLe s s' ∧ ∀ ρ w args' u, Rel P ρ (rdS s) w → Fresh ρ s.n s'.n → LRel ρ args args' → MdRel ρ m u → (∀ w, (callFunc f ⟨args'⟩).run P w = .ok (.enter f ⟨args'⟩) w) ∧
      CallsD P f ⟨args'⟩ u w fun e u' w' => ∃ v ρ', e = .returned v ∧ Ext ρ (rdS s) w s.n s'.n ρ' (rdS s') w' ∧ Rel P ρ' (rdS s') w' ∧ MdRel ρ' m' (settle u') := by
  unfold deferF at hq
  split at hq
  · rename_i fn hfn
    split at hq
    · rename_i c hb
      have main : ∀ e t m1 s1 vs, codeR P call (Nat.max fn.ntmps (lenL args)) fuel c (argsT args) m s = some (e, t, m1, s1) → (e = .normal ∨ e = .ret) → resF P t s1 fn.results.toList = some vs → m' = settleM m1 → s' = s1 →
          StLe s s' ∧ ∀ ρ w args' u, Rel P ρ (rdS s) w → Fresh ρ s.n s'.n → LRel ρ args args' → MdRel ρ m u → (∀ w, (callFunc f ⟨args'⟩).run P w = .ok (.enter f ⟨args'⟩) w) ∧
          CallsD P f ⟨args'⟩ u w fun e u' w' => ∃ v ρ', e = .returned v ∧ Ext ρ (rdS s) w s.n s'.n ρ' (rdS s') w' ∧ Rel P ρ' (rdS s') w' ∧ MdRel ρ' m' (settle u') := by
        intro e t m1 s1 vs hcode he hres hm1 hs1
        subst hm1; subst hs1
        obtain ⟨a1, a2⟩ := codeR_sound hm hN hc _ _ _ _ _ _ _ _ hcode
        refine ⟨a1, fun ρ w args' u hR hF ha hmd => ⟨fun w => by simp [callFunc, hfn, hN f fn hfn, hb], callsD_of_wpS hfn hb fun c₀ cs hu => ?_⟩⟩
        have hc0 : c₀ = { c₀ with mode := u } := by subst hu; rfl
        rw [hc0]
        refine wpS_mono (a2 ρ w _ u c₀ cs hR hF (argsT_rel ha fn.ntmps) hmd) fun x a cs' w' hfin => ?_
        obtain ⟨ρ', u', p1, p2, p3, p4, p5, p6, p7⟩ := hfin
        obtain ⟨v', r1, r2⟩ := results_sound p2 p3 hres
        have hend : a.defers = [] ∧ ∃ u2, cs' = { { c₀ with mode := u } with mode := u2 } :: cs ∧ ∃ v, (results fn a.tmps).run P w' = .ok v w' ∧ ∃ v2 ρ', Ending.returned v = .returned v2 ∧ Ext ρ (rdS s) w s.n s'.n ρ' (rdS s') w' ∧ Rel P ρ' (rdS s') w' ∧ MdRel ρ' (settleM m1) (settle u2) :=
          ⟨p4, u', p5, v', r1, v', ρ', rfl, p1, p2, settle_rel p6⟩
        rcases he with rfl | rfl
        · have : x = .normal := p7
          subst this
          exact hend
        · have : x = .ret := p7
          subst this
          exact hend
      have stt : ∀ m1 : Md, (match m1 with | .rec_ _ => Md.out | m' => m') = settleM m1 := by intro m1; cases m1 <;> rfl
      split at hq
      · rename_i t m1 s1 hcode
        split at hq
        · rename_i vs hres
          have hq' : some (settleM m1, s1) = some (m', s') := by rw [← stt]; exact hq
          cases hq'
          exact main _ _ _ _ _ hcode (.inl rfl) hres rfl rfl
        · cases hq
      · rename_i t m1 s1 hcode
        split at hq
        · rename_i vs hres
          have hq' : some (settleM m1, s1) = some (m', s') := by rw [← stt]; exact hq
          cases hq'
          exact main _ _ _ _ _ hcode (.inr rfl) hres rfl rfl
        · cases hq
      · cases hq
    · cases hq
  · cases hq
end
end Go.Ev

/- The evaluator is sound. -/
namespace Go.Ev
section
variable {P : Program} {call : CallF} {nt : Nat}

theorem Post.ext {ρ ρ1 : Ren} {s s1 : St} {w w1 : World} {c : COut} {e : Ending} {w' : World} (h : Ext ρ (rdS s) w s.n s1.n ρ1 (rdS s1) w1) (h1 : StLe s s1) (h2 : StLe s1 c.s) (hp : Post P ρ1 s1 w1 c e w') : Post P ρ s w c e w' := by
  obtain ⟨ρ2, a1, a2, a3⟩ := hp
  exact ⟨ρ2, h.trans a1 h1.n h2.n, a2, a3⟩

/-- A frame that is left. -/
theorem leaveF_sound (hm : P.follows .mixedOrders = true) (hN : NoCount P) (hc : CallOk P call) {fuel : Nat} {fn : Func} {t : Tri Value} : ∀ (d : List Deferred) (m : Md) (s : St) (c : COut), leaveF P call fuel fn t d m s = some c →
    StLe s c.s ∧ ∀ ρ w xs ds u, Rel P ρ (rdS s) w → Fresh ρ s.n c.s.n → TRel ρ t nt xs → DLRel ρ d ds → MdRel ρ m u → LeavesX P fn xs (Post P ρ s w c) ds u w := by
  intro d
  induction d with
  | nil =>
    intro m s c h
    cases m with
    | out =>
      simp only [leaveF] at h
      split at h
      · rename_i vs hvs
        cases h
        refine ⟨StLe.refl _, fun ρ w xs ds u hR hF ht hd hmd => ?_⟩
        cases hd
        cases hmd
        obtain ⟨v', r1, r2⟩ := results_sound hR ht hvs
        exact ⟨v', r1, ρ, Ext.refl _ _ _ _, hR, r2⟩
      · cases h
    | pan v =>
      simp only [leaveF] at h
      cases h
      refine ⟨StLe.refl _, fun ρ w xs ds u hR hF ht hd hmd => ?_⟩
      cases hd
      obtain ⟨v', rfl, hv⟩ := hmd
      exact ⟨ρ, Ext.refl _ _ _ _, hR, v', rfl, hv⟩
    | rec_ v => simp [leaveF] at h
  | cons x d ih =>
    intro m s c h
    obtain ⟨tg, as⟩ := x
    have notrun : ∀ {ρ u}, MdRel ρ m u → u ≠ .run := by
      intro ρ u hmd
      cases m with
      | out => cases hmd; simp
      | pan v => obtain ⟨v', rfl, _⟩ := hmd; simp
      | rec_ v => obtain ⟨v', rfl, _⟩ := hmd; simp
    cases tg with
    | collected r =>
      simp only [leaveF] at h
      split at h
      · rename_i hrow
        obtain ⟨b1, b2⟩ := ih _ _ _ h
        have a1 : StLe s (s.put r (.dfd false)) := StLe.put _ _ _ ⟨_, hrow⟩
        refine ⟨a1.trans b1, fun ρ w xs ds u hR hF ht hd hmd => ?_⟩
        cases hd with
        | col _ lc _ l' e1 e2 =>
          obtain ⟨lc', ob, f1, f2, f3⟩ := hR.obj _ _ hrow
          rw [e1] at f1; cases f1
          have f3 : ob = .deferred (some []) := f3
          subst f3
          have hblt : lc.b < w.heap.size := by
            rcases Nat.lt_or_ge lc.b w.heap.size with h | h
            · exact h
            · rw [Array.getElem?_eq_none h] at f2; cases f2
          obtain ⟨x1, x2⟩ := ext_put (n := s.n) (w' := { w with heap := w.heap.setIfInBounds lc.b (.deferred none) }) hR hrow e1 (by simp) (by simp [hblt]) (fun k hk => by simp [Array.getElem?_setIfInBounds, Ne.symm hk]) rfl rfl rfl (ob := .deferred none) (o' := .dfd false) rfl (s.n + 1)
          have x1' : Ext ρ (rdS s) w s.n (s.put r (.dfd false)).n ρ (rdS (s.put r (.dfd false))) { w with heap := w.heap.setIfInBounds lc.b (.deferred none) } := by rw [rdS_put]; exact x1
          have x2' : Rel P ρ (rdS (s.put r (.dfd false))) { w with heap := w.heap.setIfInBounds lc.b (.deferred none) } := by rw [rdS_put]; exact x2
          refine ⟨notrun hmd, .inl ⟨lc.b, { w with heap := w.heap.setIfInBounds lc.b (.deferred none) }, rfl, ?_, ?_⟩⟩
          · simp [Instr.takeDeferred, getObj, setObj, Sem.run, f2]
          · exact LeavesX.mono (fun e w' hp => hp.ext x1' a1 b1) _ _ _ (b2 ρ _ xs l' u x2' (hF.ext x1' a1.n) ht e2 hmd)
      · cases h
    | fn g cap =>
      cases g with
      | func f =>
        simp only [leaveF] at h
        split at h
        · rename_i m1 s1 hdf
          obtain ⟨a1, a2⟩ := deferF_sound hm hN hc hdf
          obtain ⟨b1, b2⟩ := ih _ _ _ h
          refine ⟨a1.trans b1, fun ρ w xs ds u hR hF ht hd hmd => ?_⟩
          cases hd with
          | fn _ cap0 cap' args0 args' _ l' e1 e2 e3 =>
            obtain ⟨hrun, hcall⟩ := a2 ρ w (args' ++ cap') u hR (hF.sub (Nat.le_refl _) b1.n) (e2.append e1) hmd
            refine ⟨notrun hmd, .inr ⟨.func f, ⟨cap'⟩, f, ⟨args' ++ cap'⟩, rfl, ?_, ?_⟩⟩
            · simp [invoke, hrun]
            · refine CallsD.mono hcall fun e u' w' hp => ?_
              obtain ⟨v, ρ', rfl, p1, p2, p3⟩ := hp
              exact LeavesX.mono (fun e w'' hp => hp.ext p1 a1 b1) _ _ _ (b2 ρ' w' xs l' (settle u') p2 (hF.ext p1 a1.n) (ht.mono p1.le) (e3.mono p1.le) p3)
        · cases h
      | _ => simp only [leaveF] at h; cases h
    | _ => simp only [leaveF] at h; cases h

theorem layP_rel {ρ : Ren} : ∀ (ps : List Tmp) (vs vs' : List Value) (t t' : Tri Value) (xs : Array Value), TRel ρ t nt xs → LRel ρ vs vs' → layP nt ps vs t = some t' →
    vs'.length = ps.length ∧ TRel ρ t' nt ((ps.zip vs').foldl (fun tmps (t, a) => tmps.setIfInBounds t a) xs) := by
  intro ps
  induction ps with
  | nil =>
    intro vs vs' t t' xs ht hv h
    cases hv with
    | nil => simp [layP] at h; subst h; exact ⟨rfl, ht⟩
    | cons _ _ _ _ _ _ => simp [layP] at h
  | cons p ps ih =>
    intro vs vs' t t' xs ht hv h
    cases hv with
    | nil => simp [layP] at h
    | cons v v' l l' e1 e2 =>
      simp only [layP] at h
      split at h
      · rename_i hlt
        have := putT_rel (a := ⟨xs, []⟩) (d := some p) (t' := t.set p v) ht e1 (by simp [putT, hlt])
        obtain ⟨h1, h2⟩ := ih _ _ _ _ _ this e2 h
        exact ⟨by simp [h1], h2⟩
      · cases h

/-- What is known of calls is so. -/
def SummOk (P : Program) (sm : Summ) : Prop := ∀ f args s c, sm f args s = some (some c) → StLe s c.s ∧
  ∀ ρ w args', Rel P ρ (rdS s) w → Fresh ρ s.n c.s.n → LRel ρ args args' → EOk P ρ s w c ((callFunc f ⟨args'⟩).run P w)

theorem endRoundF_sound {l : Nat} {j : Option Code} {s : St} {c : COut} (hq : endRoundF l j s = some c) : ∃ b, c.e = .ret (.bool b) ∧ b = j.isNone ∧ StLe s c.s ∧
    ∀ ρ w lc, Rel P ρ (rdS s) w → ρ l = some lc → ∃ w', (Instr.endRound lc.b j).run P w = .ok (.bool b) w' ∧ Ext ρ (rdS s) w s.n c.s.n ρ (rdS c.s) w' ∧ Rel P ρ (rdS c.s) w' := by
  unfold endRoundF at hq
  split at hq
  · rename_i st p t nt ps asg bo dn hrow
    have main : ∀ st' , st' = (if j.isNone then LoopState.ready else .done) → StLe s (s.put l (.loop st' j t nt ps asg bo dn)) ∧ ∀ ρ w lc, Rel P ρ (rdS s) w → ρ l = some lc →
        ∃ w', (Instr.endRound lc.b j).run P w = .ok (.bool j.isNone) w' ∧ Ext ρ (rdS s) w s.n (s.n + 1) ρ (rdS (s.put l (.loop st' j t nt ps asg bo dn))) w' ∧ Rel P ρ (rdS (s.put l (.loop st' j t nt ps asg bo dn))) w' := by
      intro st' hst'
      refine ⟨StLe.put _ _ _ ⟨_, hrow⟩, fun ρ w lc hR hl => ?_⟩
      obtain ⟨lc', ob, f1, f2, f3⟩ := hR.obj _ _ hrow
      rw [hl] at f1; cases f1
      obtain ⟨fn0, xs0, ld, g1, g2, g3⟩ := f3
      rw [g1] at f2
      have hgl : (Instr.getLoop lc.b).run P w = .ok { state := st, pending := p, fn := fn0, tmps := xs0, params := ⟨ps⟩, assign := asg, body := bo, defers := ld.b } w := by
        simp [Instr.getLoop, getObj, Sem.run, f2]
      have hs : ∀ o2, (setObj lc.b o2).run P w = .ok () { w with heap := w.heap.setIfInBounds lc.b o2 } := by intro o2; simp [setObj, Sem.run, f2]
      have hblt : lc.b < w.heap.size := by
        rcases Nat.lt_or_ge lc.b w.heap.size with h | h
        · exact h
        · rw [Array.getElem?_eq_none h] at f2; cases f2
      have hob : ObjRel P ρ lc (.loop st' j t nt ps asg bo dn) (.loop { state := st', pending := j, fn := fn0, tmps := xs0, params := ⟨ps⟩, assign := asg, body := bo, defers := ld.b }) := ⟨fn0, xs0, ld, rfl, g2, g3⟩
      obtain ⟨x1, x2⟩ := ext_put (n := s.n) (w' := { w with heap := w.heap.setIfInBounds lc.b (.loop { state := st', pending := j, fn := fn0, tmps := xs0, params := ⟨ps⟩, assign := asg, body := bo, defers := ld.b }) }) hR hrow hl (by simp) (by simp [hblt]) (fun k hk => by simp [Array.getElem?_setIfInBounds, Ne.symm hk]) rfl rfl rfl hob (s.n + 1)
      refine ⟨{ w with heap := w.heap.setIfInBounds lc.b (.loop { state := st', pending := j, fn := fn0, tmps := xs0, params := ⟨ps⟩, assign := asg, body := bo, defers := ld.b }) }, ?_, ?_, ?_⟩
      · simp only [Instr.endRound, Sem.run_bind, hgl, Result.andThen_ok, hs, Sem.run_pure]
        rw [hst']
      · rw [rdS_put]; exact x1
      · rw [rdS_put]; exact x2
    cases j with
    | none =>
      cases hq
      obtain ⟨h1, h2⟩ := main .ready rfl
      exact ⟨true, rfl, rfl, h1, h2⟩
    | some k =>
      cases hq
      obtain ⟨h1, h2⟩ := main .done rfl
      exact ⟨false, rfl, rfl, h1, h2⟩
  · cases hq

/-- A round. -/
theorem roundF_sound (hm : P.follows .mixedOrders = true) (hN : NoCount P) (hc : CallOk P call) {fuel : Nat} {l : Nat} {args : List Value} {s : St} {c : COut} (hq : roundF P call fuel l args s = some c) :
    StLe s c.s ∧ ∀ ρ w args' lc, Rel P ρ (rdS s) w → Fresh ρ s.n c.s.n → LRel ρ args args' → ρ l = some lc → EOk P ρ s w c ((Instr.yield lc.b ⟨args'⟩).run P w) := by
  unfold roundF at hq
  split at hq
  · rename_i st p t nt ps asg bo dn hrow
    split at hq
    · rename_i t1 ht1
      split at hq
      · rename_i t2 s2 hasg
        split at hq
        · rename_i p' t' nt' ps' asg' bo' dn' hrow2
          split at hq
          · rename_i e t3 s3 hbody
            split at hq
            · rename_i j hj
              obtain ⟨a1, a2⟩ := (code_sound (nt := nt) (r := some l) hm hN hc fuel).1 _ _ _ _ _ hasg
              obtain ⟨b1, b2⟩ := (code_sound (nt := nt) (r := some l) hm hN hc fuel).1 _ _ _ _ _ hbody
              obtain ⟨bb, e1, e2, c1, c2⟩ := endRoundF_sound (P := P) hq
              simp only at a1 a2 b1 b2
              have h2 : StLe s2 (s2.put l (.loop .busy p' t' nt' ps' asg' bo' dn')) := StLe.put _ _ _ ⟨_, hrow2⟩
              refine ⟨((a1.trans h2).trans b1).trans c1, fun ρ w args' lc hR hF ha hl => ?_⟩
              obtain ⟨lc', ob, f1, f2, f3⟩ := hR.obj _ _ hrow
              rw [hl] at f1; cases f1
              obtain ⟨fn0, xs0, ld, g1, g2, g3⟩ := f3
              rw [g1] at f2
              have hgl : (Instr.getLoop lc.b).run P w = .ok { state := st, pending := p, fn := fn0, tmps := xs0, params := ⟨ps⟩, assign := asg, body := bo, defers := ld.b } w := by
                simp [Instr.getLoop, getObj, Sem.run, f2]
              obtain ⟨hlen, hTR⟩ := layP_rel _ _ _ _ _ _ g2 ha ht1
              have hsz : ¬ ((⟨args'⟩ : Array Value).size ≠ (⟨ps⟩ : Array Tmp).size) := by
                intro h; exact h hlen
              have hyield : (Instr.yield lc.b ⟨args'⟩).run P w = .ok (.round lc.b fn0 (((⟨ps⟩ : Array Tmp).zip ⟨args'⟩).foldl (fun tmps (t, a) => tmps.setIfInBounds t a) xs0) asg bo) w := by
                simp only [Instr.yield, Sem.run_bind, hgl, Result.andThen_ok]
                rw [if_neg hsz]
                simp
              rw [hyield]
              have hxs : ((⟨ps⟩ : Array Tmp).zip ⟨args'⟩).foldl (fun tmps (t, a) => tmps.setIfInBounds t a) xs0 = (ps.zip args').foldl (fun tmps (t, a) => tmps.setIfInBounds t a) xs0 := by
                rw [← Array.foldl_toList, Array.toList_zip]
              rw [hxs]
              refine roundIn_of_wpIn trivial ?_
              have hfe : FenceOf ρ (some l) (Fence.wide.inRound lc.b) := ⟨lc, hl, rfl⟩
              have hn1 := h2.n
              have hn2 := b1.n
              have hn3 := c1.n
              refine wpIn_mono (a2 ρ w _ [] _ hfe hR (hF.sub (Nat.le_refl _) (by omega)) hTR .nil) fun x a w1 hfin => ?_
              have := hfin.normal rfl
              subst this
              obtain ⟨ρ1, p1, p2, p3, p4, p5⟩ := hfin
              simp only at p1 p2 p3 p4
              obtain ⟨xs1, ds1⟩ := a
              simp only at p3 p4
              cases p4
              -- the round begins
              have hl1 := p1.le _ _ hl
              obtain ⟨lc2, ob2, q1, q2, q3⟩ := p2.obj _ _ hrow2
              rw [hl1] at q1; cases q1
              obtain ⟨fn1, xs2, ld1, r1, r2, r3⟩ := q3
              rw [r1] at q2
              have hgl2 : (Instr.getLoop lc.b).run P w1 = .ok { state := .ready, pending := p', fn := fn1, tmps := xs2, params := ⟨ps'⟩, assign := asg', body := bo', defers := ld1.b } w1 := by
                simp [Instr.getLoop, getObj, Sem.run, q2]
              have hs : ∀ o2, (setObj lc.b o2).run P w1 = .ok () { w1 with heap := w1.heap.setIfInBounds lc.b o2 } := by intro o2; simp [setObj, Sem.run, q2]
              have hblt : lc.b < w1.heap.size := by
                rcases Nat.lt_or_ge lc.b w1.heap.size with h | h
                · exact h
                · rw [Array.getElem?_eq_none h] at q2; cases q2
              have hob : ObjRel P ρ1 lc (.loop .busy p' t' nt' ps' asg' bo' dn') (.loop { state := .busy, pending := p', fn := fn1, tmps := xs2, params := ⟨ps'⟩, assign := asg', body := bo', defers := ld1.b }) := ⟨fn1, xs2, ld1, rfl, r2, r3⟩
              obtain ⟨y1, y2⟩ := ext_put (n := s2.n) (w' := { w1 with heap := w1.heap.setIfInBounds lc.b (.loop { state := .busy, pending := p', fn := fn1, tmps := xs2, params := ⟨ps'⟩, assign := asg', body := bo', defers := ld1.b }) }) p2 hrow2 hl1 (by simp) (by simp [hblt]) (fun k hk => by simp [Array.getElem?_setIfInBounds, Ne.symm hk]) rfl rfl rfl hob (s2.n + 1)
              rw [← rdS_put] at y1 y2
              have z1 := p1.trans y1 a1.n (Nat.le_succ _)
              have hFb : Fresh ρ1 (s2.put l (.loop .busy p' t' nt' ps' asg' bo' dn')).n c.s.n := hF.ext z1 (a1.trans h2).n
              refine ⟨{ w1 with heap := w1.heap.setIfInBounds lc.b (.loop { state := .busy, pending := p', fn := fn1, tmps := xs2, params := ⟨ps'⟩, assign := asg', body := bo', defers := ld1.b }) }, ?_, ?_⟩
              · simp only [Instr.beginRound, Sem.run_bind, hgl2, Result.andThen_ok, hs, Sem.run_pure]
              · refine wpIn_mono (b2 ρ1 _ xs1 [] _ (hfe.mono p1.le) y2 (hFb.sub (Nat.le_refl _) hn3) p3 .nil) fun x a w3 hfin => ?_
                obtain ⟨ρ3, u1, u2, u3, u4, u5⟩ := hfin
                simp only at u1 u2 u5
                have hl3 := u1.le _ _ hl1
                obtain ⟨w4, v1, v2, v3⟩ := c2 ρ3 w3 lc u2 hl3
                have hpost : ∃ v w', (Instr.endRound lc.b j).run P w3 = .ok v w' ∧ Post P ρ s w c (.returned v) w' := by
                  refine ⟨.bool bb, w4, v1, ρ3, ?_, v3, ?_⟩
                  · exact (z1.trans u1 (a1.trans h2).n b1.n).trans v2 ((a1.trans h2).trans b1).n c1.n
                  · rw [e1]; exact .bool bb
                cases e with
                | normal => cases hj; have : x = .normal := u5; subst this; exact hpost
                | ret => cases hj; have : x = .ret := u5; subst this; exact hpost
                | exit id => cases hj; have : x = .exit id := u5; subst this; exact hpost
                | goto t => cases hj; have : x = .goto t := u5; subst this; exact hpost
                | panic v => cases hj
            · cases hq
          · cases hq
        · cases hq
      · cases hq
    · cases hq
  · cases hq

theorem callF_sound (hm : P.follows .mixedOrders = true) (hN : NoCount P) {sm : Summ} (hs : SummOk P sm) {fuel : Nat} : ∀ n, CallOk P (callF P sm fuel n) := by
  intro n
  induction n with
  | zero => intro tgt args s c h; simp [callF] at h
  | succ n ih =>
    intro tgt args s c h
    cases tgt with
    | round l =>
      simp only [callF] at h
      obtain ⟨a1, a2⟩ := roundF_sound hm hN ih h
      exact ⟨a1, fun ρ w args' hR hF ha lc hl => a2 ρ w args' lc hR hF ha hl⟩
    | fn f =>
      simp only [callF] at h
      split at h
      · rename_i r hsm
        subst h
        exact hs f args s c hsm
      · split at h
        · rename_i fn hfn
          split at h
          · rename_i code hb
            have main : ∀ e t d s1 m, codeF P (callF P sm fuel n) none (Nat.max fn.ntmps (lenL args)) fuel code (argsT args) [] s = some ⟨e, t, d, s1⟩ →
                (∀ ρ x, XRel ρ e x → ∃ u, MdRel ρ m u ∧ ∀ R a w, LeavesX P fn a.tmps R a.defers u w → bodyPostX P fn R x a w) →
                leaveF P (callF P sm fuel n) fuel fn t d m s1 = some c → StLe s c.s ∧ ∀ ρ w args', Rel P ρ (rdS s) w → Fresh ρ s.n c.s.n → LRel ρ args args' → EOk P ρ s w c ((callFunc f ⟨args'⟩).run P w) := by
              intro e t d s1 m hcode hx hleave
              obtain ⟨a1, a2⟩ := (code_sound (nt := Nat.max fn.ntmps (lenL args)) (r := none) hm hN ih fuel).1 _ _ _ _ _ hcode
              obtain ⟨b1, b2⟩ := leaveF_sound (nt := Nat.max fn.ntmps (lenL args)) hm hN ih _ _ _ _ hleave
              simp only at a1 a2
              refine ⟨a1.trans b1, fun ρ w args' hR hF ha => ?_⟩
              have hrun : (callFunc f ⟨args'⟩).run P w = .ok (.enter f ⟨args'⟩) w := by simp [callFunc, hfn, hN f fn hfn, hb]
              rw [hrun]
              show CallsIn Fence.wide 0 P f ⟨args'⟩ w (Post P ρ s w c)
              refine callsIn_wide.2 (calls_of_wp_leaves hfn hb (wpIn_wide.1 (wpIn_mono (a2 ρ w _ [] Fence.wide rfl hR (hF.sub (Nat.le_refl _) b1.n) (argsT_rel ha fn.ntmps) .nil) fun x a w' hfin => ?_)))
              obtain ⟨ρ1, p1, p2, p3, p4, p5⟩ := hfin
              simp only at p1 p2 p3 p4 p5
              obtain ⟨u, hu1, hu2⟩ := hx ρ1 x p5
              exact hu2 _ _ _ (LeavesX.mono (fun e w'' hp => hp.ext p1 a1 b1) _ _ _ (b2 ρ1 w' a.tmps a.defers u p2 (hF.ext p1 a1.n) p3 p4 hu1))
            split at h
            · rename_i t d s1 hcode
              exact main _ _ _ _ .out hcode (fun ρ x hx => ⟨.returning, rfl, fun R a w hl => by have : x = .normal := hx; subst this; exact hl⟩) h
            · rename_i t d s1 hcode
              exact main _ _ _ _ .out hcode (fun ρ x hx => ⟨.returning, rfl, fun R a w hl => by have : x = .ret := hx; subst this; exact hl⟩) h
            · rename_i v t d s1 hcode
              exact main _ _ _ _ (.pan v) hcode (fun ρ x hx => by
                obtain ⟨v', rfl, hv⟩ := hx
                exact ⟨_, ⟨v', rfl, hv⟩, fun R a w hl => hl⟩) h
            · cases h
          · cases h
        · cases h
end
end Go.Ev
