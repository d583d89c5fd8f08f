/- Regions in the order of their text. -/
import Derived.Test.YtjkklcpefepohaaGreatDoorEv4
import Derived.OwnWalkIn
import Derived.OrdersIn
set_option linter.unusedVariables false
set_option linter.unusedSimpArgs false
namespace Go.Ev

/-- Calls that have been put off. -/
inductive DLRel (ρ : Ren) : List Deferred → List Deferred → Prop
  | nil : DLRel ρ [] []
  | fn (f : FuncId) (cap cap' args args' : List Value) (l l' : List Deferred) : LRel ρ cap cap' → LRel ρ args args' → DLRel ρ l l' →
      DLRel ρ (⟨.fn (.func f) ⟨cap⟩, ⟨args⟩⟩ :: l) (⟨.fn (.func f) ⟨cap'⟩, ⟨args'⟩⟩ :: l')
  | col (a : Nat) (lc : Loc) (l l' : List Deferred) : ρ a = some lc → DLRel ρ l l' → DLRel ρ (⟨.collected a, #[]⟩ :: l) (⟨.collected lc.b, #[]⟩ :: l')
theorem DLRel.mono {ρ ρ' : Ren} (h : ρ.le ρ') {l l' : List Deferred} (hd : DLRel ρ l l') : DLRel ρ' l l' := by
  induction hd with
  | nil => exact .nil
  | fn f cap cap' args args' l l' h1 h2 _ ih => exact .fn f cap cap' args args' l l' (h1.mono h) (h2.mono h) ih
  | col a lc l l' h1 _ ih => exact .col a lc l l' (h _ _ h1) ih
theorem DLRel.append {ρ : Ren} {a a' b b' : List Deferred} (h : DLRel ρ a a') (h' : DLRel ρ b b') : DLRel ρ (a ++ b) (a' ++ b') := by
  induction h with
  | nil => exact h'
  | fn f cap cap' args args' l l' h1 h2 _ ih => exact .fn f cap cap' args args' _ _ h1 h2 ih
  | col a lc l l' h1 _ ih => exact .col a lc _ _ h1 ih

/-- How code is left. -/
def XRel (ρ : Ren) : Ex → Exit → Prop
  | .normal, x => x = .normal
  | .exit id, x => x = .exit id
  | .goto l, x => x = .goto l
  | .ret, x => x = .ret
  | .panic v, x => ∃ v', x = .panic [{ v := v', recovered := false }] ∧ VRel ρ v v'
theorem XRel.mono {ρ ρ' : Ren} (h : ρ.le ρ') {e : Ex} {x : Exit} (hx : XRel ρ e x) : XRel ρ' e x := by
  cases e with
  | panic v => obtain ⟨v', h1, h2⟩ := hx; exact ⟨v', h1, h2.mono h⟩
  | _ => exact hx

/-- What holds where code is left. -/
def Fin (P : Program) (nt : Nat) (ρ : Ren) (s : St) (w : World) (out : Out) (x : Exit) (a : Act) (w' : World) : Prop :=
  ∃ ρ', Ext ρ (rdS s) w s.n out.s.n ρ' (rdS out.s) w' ∧ Rel P ρ' (rdS out.s) w' ∧ TRel ρ' out.t nt a.tmps ∧ DLRel ρ' out.d a.defers ∧ XRel ρ' out.e x

/-- The fence of an activation: a function's, or a round's. -/
def FenceOf (ρ : Ren) (r : Option Nat) (F : Fence) : Prop := match r with
  | none => F = Fence.wide
  | some l => ∃ lc, ρ l = some lc ∧ F = Fence.wide.inRound lc.b
theorem FenceOf.mono {ρ ρ' : Ren} (h : ρ.le ρ') {r : Option Nat} {F : Fence} (hf : FenceOf ρ r F) : FenceOf ρ' r F := by
  cases r with
  | none => exact hf
  | some l => obtain ⟨lc, h1, h2⟩ := hf; exact ⟨lc, h _ _ h1, h2⟩
theorem FenceOf.fn {ρ : Ren} {r : Option Nat} {F : Fence} (hf : FenceOf ρ r F) (f : FuncId) : F.fn f := by
  cases r with
  | none => cases hf; trivial
  | some l => obtain ⟨lc, _, h2⟩ := hf; subst h2; trivial
theorem FenceOf.depth {ρ : Ren} {r : Option Nat} {F : Fence} (hf : FenceOf ρ r F) : F.depth.isSome = true → 1 ≤ 0 := by
  cases r with
  | none => cases hf; intro h; cases h
  | some l => obtain ⟨lc, _, h2⟩ := hf; subst h2; intro h; cases h
theorem FenceOf.calls {ρ : Ren} {r : Option Nat} {F : Fence} (hf : FenceOf ρ r F) {P : Program} {f : FuncId} {args : Array Value} {w : World} {R : Ending → World → Prop}
    (h : CallsIn Fence.wide 0 P f args w R) : CallsIn F 0 P f args w R := by
  cases r with
  | none => cases hf; exact h
  | some l => obtain ⟨lc, _, h2⟩ := hf; subst h2; exact h
theorem FenceOf.round {ρ : Ren} {r : Option Nat} {F : Fence} (hf : FenceOf ρ r F) {P : Program} {l : Nat} {f : FuncId} {tmps : Array Value} {asg body : Code} {w : World} {R : Ending → World → Prop}
    (h : RoundIn Fence.wide 0 P l f tmps asg body w R) : RoundIn F 0 P l f tmps asg body w R := by
  cases r with
  | none => cases hf; exact h
  | some l => obtain ⟨lc, _, h2⟩ := hf; subst h2; exact h

section
variable {P : Program} {call : CallF}
theorem opv_rel {ρ : Ren} {h : Hp} {w : World} {t : Tri Value} {nt : Nat} {a : Act} (hR : Rel P ρ h w) (ht : TRel ρ t nt a.tmps) {x : Operand} {v : Value} (hv : opv P t x = some v) : VRel ρ v (a.eval x) := by
  cases x with
  | tmp i =>
    have main : VRel ρ ((t.get i).getD undef) (a.eval (.tmp i)) := by
      rcases Nat.lt_or_ge i nt with hi | hi
      · obtain ⟨v', e1, e2⟩ := ht.2.1 i hi
        have : a.eval (.tmp i) = v' := by simp [Act.eval, e1]
        rw [this]; exact e2
      · have h1 : a.tmps[i]? = none := Array.getElem?_eq_none (by rw [ht.1]; exact hi)
        have : a.eval (.tmp i) = undef := by simp [Act.eval, h1]
        rw [ht.2.2 i hi, this]; exact undef_rel
    simp only [opv] at hv
    split at hv
    · rename_i u hu; cases hv; rw [hu] at main; exact main
    · rename_i hu; cases hv; rw [hu] at main; exact main
  | const c =>
    simp only [opv] at hv
    split at hv
    · rename_i hf; cases hv; exact flat_rel ρ hf
    · cases hv
  | global g =>
    simp only [opv] at hv
    split at hv
    · rename_i hg; cases hv
      have := VRel.ptr (ρ := ρ) g 0 _ (hR.glob g (Nat.le_of_ble_eq_true hg))
      exact this
    · cases hv
  | func f =>
    simp only [opv] at hv
    cases hv
    exact .fn f [] [] [] [] .nil .nil

theorem putT_rel {ρ : Ren} {t t' : Tri Value} {nt : Nat} {a : Act} {d : Option Tmp} {v v' : Value} (ht : TRel ρ t nt a.tmps) (hv : VRel ρ v v') (hp : putT nt t d v = some t') : TRel ρ t' nt (a.put d v').tmps := by
  cases d with
  | none => simp only [putT] at hp; cases hp; exact ht
  | some d =>
    simp only [putT] at hp
    split at hp
    · rename_i hd
      have hd : d < nt := Nat.le_of_ble_eq_true hd
      cases hp
      refine ⟨by simp [Act.put, ht.1], fun i hi => ?_, fun i hi => ?_⟩
      · rw [Tri.get_set]
        by_cases h : i = d
        · subst h
          refine ⟨v', ?_, by simpa using hv⟩
          simp [Act.put, ht.1, hi]
        · obtain ⟨u, e1, e2⟩ := ht.2.1 i hi
          refine ⟨u, ?_, by simpa [h] using e2⟩
          simp only [Act.put]
          rw [Array.getElem?_setIfInBounds_ne (Ne.symm h)]; exact e1
      · have hne : ¬ i = d := Nat.ne_of_gt (Nat.lt_of_lt_of_le hd hi)
        rw [Tri.get_set, if_neg hne]; exact ht.2.2 i hi
    · cases hp
theorem put_defers (a : Act) (d : Option Tmp) (v : Value) : (a.put d v).defers = a.defers := by cases d <;> rfl

theorem lkB_rel {ρ : Ren} {t : Tri Value} {nt : Nat} {xs : Array Value} (ht : TRel ρ t nt xs) (d : Nat) : (match xs[d]? with | some (.bool b) => some b | _ => none) = lkB t d := by
  unfold lkB
  rcases Nat.lt_or_ge d nt with hd | hd
  · obtain ⟨v', e1, e2⟩ := ht.2.1 d hd
    rw [e1]
    cases hg : t.get d with
    | none => rw [hg] at e2; simp only [Option.getD_none] at e2; have : undef = .tuple #[] := rfl; rw [this] at e2; cases e2; rfl
    | some v =>
      rw [hg] at e2
      simp only [Option.getD_some] at e2
      cases e2 <;> rfl
  · rw [Array.getElem?_eq_none (by rw [ht.1]; exact hd), ht.2.2 d hd]
theorem eqB_eq (a b : Bool) : eqB a b = (some a == some b) := by cases a <;> cases b <;> rfl
theorem wantF_rel {ρ : Ren} {t : Tri Value} {nt : Nat} {xs : Array Value} (ht : TRel ρ t nt xs) (ops : Array Oper) (o : Oper) : Region.wanted o (yielded ops xs) = wantF ops.toList t o := by
  unfold Region.wanted wantF
  cases hg : o.guard with
  | none => rfl
  | some jw =>
    obtain ⟨j, want⟩ := jw
    simp only
    unfold yielded
    rw [nth_eq]
    rw [Array.getElem?_toList]
    cases hj : ops[j]? with
    | none => rfl
    | some oj =>
      simp only [Option.bind_some]
      cases hd : oj.dst with
      | none => rfl
      | some d =>
        simp only [Option.bind_some]
        have := lkB_rel ht d
        rw [← this]
        cases hx : xs[d]? with
        | none => rfl
        | some v => cases v <;> first | rfl | exact (eqB_eq _ _).symm

theorem effOp_sound (hc : CallOk P call) {ev : Operand → Option Value} {s : St} {o : Oper} {c : COut} (hq : effOp P call ev s o = some c) : StLe s c.s ∧
    ∀ ρ w (ev' : Operand → Value), Rel P ρ (rdS s) w → Fresh ρ s.n c.s.n → (∀ x ∈ o.op.operands, ∀ v, ev x = some v → VRel ρ v (ev' x)) → EOk P ρ s w c ((execOp ev' o).run P w) := by
  cases hop : o.op with
  | store t a x =>
    obtain ⟨h1, h2⟩ := e_store hop hq
    exact ⟨h1, fun ρ w ev' hR hF hx => h2 ρ w ev' hR hF (hx a (by simp [Op.operands])) (hx x (by simp [Op.operands]))⟩
  | mapUpdate t m k x =>
    obtain ⟨h1, h2⟩ := e_mapUpdate hop hq
    exact ⟨h1, fun ρ w ev' hR hF hx => h2 ρ w ev' hR hF (hx m (by simp [Op.operands])) (hx k (by simp [Op.operands])) (hx x (by simp [Op.operands]))⟩
  | next x b =>
    obtain ⟨h1, h2⟩ := e_next hop hq
    exact ⟨h1, fun ρ w ev' hR hF hx => h2 ρ w ev' hR hF (hx x (by simp [Op.operands]))⟩
  | panic x =>
    obtain ⟨h1, h2⟩ := e_panic hop hq
    exact ⟨h1, fun ρ w ev' hR hF hx => h2 ρ w ev' hR hF (hx x (by simp [Op.operands]))⟩
  | call cc =>
    obtain ⟨h1, h2⟩ := e_call hc hop hq
    exact ⟨h1, fun ρ w ev' hR hF hx => h2 ρ w ev' hR hF (fun x hm => hx x (by simpa [Op.operands] using hm))⟩
  | _ => simp [effOp, hop] at hq


/-- The operations l of a region, by their places. -/
inductive IL (ops : Array Oper) : List Nat → List Oper → Prop
  | nil : IL ops [] []
  | cons (i : Nat) (o : Oper) (is : List Nat) (l : List Oper) : ops[i]? = some o → IL ops is l → IL ops (i :: is) (o :: l)
theorem IL.range' {ops : Array Oper} : ∀ (l : List Oper) (k : Nat), (∀ j, l[j]? = ops[k + j]?) → IL ops (List.range' k l.length) l := by
  intro l
  induction l with
  | nil => intro k _; exact .nil
  | cons o l ih =>
    intro k h
    rw [List.length_cons, List.range'_succ]
    refine .cons _ _ _ _ ?_ (ih (k + 1) fun j => ?_)
    · have := h 0; simpa using this.symm
    · have := h (j + 1); rw [Nat.add_assoc, Nat.add_comm 1 j]; simpa using this
theorem IL.all (ops : Array Oper) : IL ops (List.range ops.size) ops.toList := by
  have := IL.range' (ops := ops) ops.toList 0 (fun j => by simp)
  rw [List.range_eq_range']
  simpa using this

/-- One operation that is wanted, and what comes behind it. -/
theorem step_wp {ρ : Ren} {F : Fence} {o : Oper} {s : St} {w : World} {a : Act} {c : COut} {K : Act → World → Prop} {Q : Exit → Act → World → Prop} {r : Option Nat} (hf : FenceOf ρ r F)
    (hnd : ∀ c, o.op ≠ .defer c) (h : EOk P ρ s w c ((execOp a.eval o).run P w))
    (hK : ∀ v', ∀ w' ρ', Ext ρ (rdS s) w s.n c.s.n ρ' (rdS c.s) w' → Rel P ρ' (rdS c.s) w' → ∀ v, c.e = .ret v → VRel ρ' v v' → K (a.put o.dst v') w')
    (hQ : ∀ v', ∀ w' ρ', Ext ρ (rdS s) w s.n c.s.n ρ' (rdS c.s) w' → Rel P ρ' (rdS c.s) w' → ∀ v, c.e = .panic v → VRel ρ' v v' → Q (.panic [{ v := v', recovered := false }]) a w') :
    o.wpIn F 0 P a w K Q := by
  refine ⟨fun f _ => hf.fn f, ?_⟩
  rw [Oper.semAt_plain F _ _ hnd]
  have post : ∀ e w', Post P ρ s w c e w' → (match e with | .returned v => K (a.put o.dst v) w' | .panicked chain => Q (.panic chain) a w' | .outgrown => LetsOut Q) := by
    intro e w' hp
    obtain ⟨ρ', h1, h2, h3⟩ := hp
    cases hce : c.e with
    | ret v =>
      rw [hce] at h3
      cases e with
      | returned v' => exact hK v' w' ρ' h1 h2 v hce h3
      | panicked ch => exact h3.elim
      | outgrown => exact h3.elim
    | panic v =>
      rw [hce] at h3
      cases e with
      | returned v' => exact h3.elim
      | panicked ch =>
        obtain ⟨v', e1, e2⟩ := h3
        subst e1
        exact hQ v' w' ρ' h1 h2 v hce e2
      | outgrown => exact h3.elim
  generalize (execOp a.eval o).run P w = res at h
  cases res with
  | ok x w' =>
    cases x with
    | value v => exact post (.returned v) w' h
    | skip => exact post (.returned undef) w' h
    | enter f args =>
      rw [Oper.uponIn_enter]
      refine ⟨fun hd => absurd (hf.depth hd) (by omega), (hf.calls h).mono fun e w'' hp => ?_⟩
      have := post e w'' hp
      cases e <;> exact this
    | round l f tmps asg body =>
      rw [Oper.uponIn_round]
      refine ⟨fun hd => absurd (hf.depth hd) (by omega), (hf.round h).mono fun e w'' hp => ?_⟩
      have := post e w'' hp
      cases e <;> exact this
    | _ => exact h.elim
  | halt x w' =>
    cases x with
    | panic v => exact post (.panicked _) w' h
    | _ => exact h.elim

theorem POk.eok {ρ : Ren} {s : St} {w : World} {po : PO} {res : Result Next} (hR : Rel P ρ (rdS s) w) (hF : Fresh ρ s.n (poDo s po).2.n) (h : POk P ρ w po res) : EOk P ρ s w ⟨.ret (poDo s po).1, (poDo s po).2⟩ res := by
  cases po with
  | val v =>
    obtain ⟨v', rfl, h2⟩ := h
    exact ⟨ρ, Ext.refl _ _ _ _, hR, h2⟩
  | new o nv =>
    obtain ⟨v', w', ob, l, rfl, h1, h2, h3, h4, h5, h6, h7⟩ := h
    obtain ⟨x1, x2⟩ := ext_new (w' := w') hR (hF s.n (Nat.le_refl _) (Nat.lt_succ_self _)) h1 h2 h3 h4 h5 h6
    refine ⟨ρ.upd s.n l, ?_, ?_, h7 _ _ (Ren.upd_same _ _ _)⟩
    · show Ext ρ (rdS s) w s.n (s.n + 1) _ (rdS (s.new o)) w'
      rw [rdS_new]; exact x1
    · show Rel P _ (rdS (s.new o)) w'
      rw [rdS_new]; exact x2
theorem poDo_le (s : St) (po : PO) : StLe s (poDo s po).2 := by
  cases po with
  | val v => exact StLe.refl _
  | new o nv => exact StLe.new _ _

def Step.out : Step → Tri Value → List Deferred → Out
  | .go t s, _, d => ⟨.normal, t, d, s⟩
  | .dfr x t s, _, d => ⟨.normal, t, x :: d, s⟩
  | .boom v t s, _, d => ⟨.panic v, t, d, s⟩
def Steps'.out : Steps' → Out
  | .go t d s => ⟨.normal, t, d, s⟩
  | .boom v t d s => ⟨.panic v, t, d, s⟩

theorem isEff_nodefer {o : Oper} (h : isEff o = true) : ∀ c, o.op ≠ .defer c := by
  intro c e
  simp [isEff, e] at h
theorem pure_nodefer {ev : Operand → Option Value} {rd : Rd} {o : Oper} {po : PO} (h : pureOp P ev rd o = some po) : ∀ c, o.op ≠ .defer c := by
  intro c e
  simp [pureOp, e] at h

theorem dferF_sound {ρ : Ren} {ev : Operand → Option Value} {ev' : Operand → Value} {o : Oper} {x : Deferred} {w : World} (hq : dferF ev o = some x)
    (hx : ∀ x ∈ o.op.operands, ∀ v, ev x = some v → VRel ρ v (ev' x)) : ∃ x', (execOp ev' o).run P w = .ok (.defer x') w ∧ ∀ l l', DLRel ρ l l' → DLRel ρ (x :: l) (x' :: l') := by
  unfold dferF at hq
  split at hq
  · rename_i c hop
    split at hq
    · rename_i f hc
      split at hq
      · rename_i g first cap l hf hl
        cases hq
        have h1 := hx f (by simp [hop, Op.operands, Call.operands, hc]) _ hf
        have h2 := opvs_rel (ρ := ρ) (ev' := ev') _ _ (fun x hxm => hx x (by simp [hop, Op.operands, Call.operands]; right; simpa using hxm)) hl
        have hargs : c.args.map ev' = ⟨c.args.toList.map ev'⟩ := by apply Array.ext'; simp
        generalize hfv : ev' f = fv at h1
        cases h1 with
        | fn _ xs ys xs' ys' e1 e2 =>
          refine ⟨⟨.fn (.func g) ⟨ys'⟩, ⟨xs' ++ c.args.toList.map ev'⟩⟩, ?_, fun l l' hd => ?_⟩
          · simp [execOp, hop, resolve, hc, hfv, hargs, Deferred.ofValue]
          · exact .fn g _ _ _ _ _ _ e2 (e1.append h2) hd
      · cases hq
    · cases hq
  · cases hq

/-- One operation of a region. -/
theorem opF_sound (hc : CallOk P call) {nt : Nat} {ops : Array Oper} {t : Tri Value} {s : St} {o : Oper} {st : Step} (hq : opF P call nt ops.toList t s o = some st) :
    StLe s (st.out t []).s ∧ ∀ ρ w xs ds d F (r : Option Nat) (K : Act → World → Prop) Q i, ops[i]? = some o → FenceOf ρ r F → Rel P ρ (rdS s) w → Fresh ρ s.n (st.out t []).s.n → TRel ρ t nt xs → DLRel ρ d ds →
      (r = none ∨ (st.out t d).d = []) →
      ((st.out t d).e = .normal → ∀ a w', Fin P nt ρ s w (st.out t d) .normal a w' → K a w') → (∀ v, (st.out t d).e = .panic v → ∀ x a w', Fin P nt ρ s w (st.out t d) x a w' → Q x a w') →
      wpOpIn F 0 P ops Q i K ⟨xs, ds⟩ w := by
  unfold opF at hq
  cases hw : wantF ops.toList t o with
  | false =>
    rw [hw] at hq
    simp only at hq
    split at hq
    · rename_i t' ht'
      cases hq
      refine ⟨StLe.refl _, fun ρ w xs ds d F r K Q i hi hf hR hF ht hd _ hK hQ => ?_⟩
      unfold wpOpIn
      simp only [hi]
      rw [wantF_rel ht, hw]
      simp only [Bool.false_eq_true, if_false]
      refine ⟨fun f _ => hf.fn f, hK rfl _ _ ⟨ρ, Ext.refl _ _ _ _, hR, putT_rel (a := ⟨xs, ds⟩) ht undef_rel ht', ?_, rfl⟩⟩
      rw [put_defers]; exact hd
    · cases hq
  | true =>
    rw [hw] at hq
    simp only at hq
    have ent : ∀ {ρ xs}, TRel ρ t nt xs → ∀ {F Q K ds w i}, ops[i]? = some o → o.wpIn F 0 P ⟨xs, ds⟩ w K Q → wpOpIn F 0 P ops Q i K ⟨xs, ds⟩ w := by
      intro ρ xs ht F Q K ds w i hi h
      unfold wpOpIn
      simp only [hi]
      rw [wantF_rel ht, hw]
      simpa using h
    cases he : isEff o with
    | false =>
      rw [he] at hq
      simp only at hq
      split at hq
      · rename_i po hpo
        split at hq
        · rename_i t' ht'
          cases hq
          refine ⟨poDo_le _ _, fun ρ w xs ds d F r K Q i hi hf hR hF ht hd _ hK hQ => ?_⟩
          have hp := pureOp_sound (ev' := (⟨xs, ds⟩ : Act).eval) hR (fun _ _ h => h) hpo (fun x _ v hv => opv_rel (a := ⟨xs, ds⟩) hR ht hv)
          refine ent ht hi (step_wp hf (pure_nodefer hpo) (hp.eok hR hF) ?_ ?_)
          · intro v' w' ρ' h1 h2 v hv h3
            cases hv
            exact hK rfl _ _ ⟨ρ', h1, h2, putT_rel (a := ⟨xs, ds⟩) (ht.mono h1.le) h3 ht', by rw [put_defers]; exact hd.mono h1.le, rfl⟩
          · intro v' w' ρ' _ _ v hv; cases hv
        · cases hq
      · split at hq
        · rename_i x hx
          split at hq
          · rename_i t' ht'
            cases hq
            refine ⟨StLe.refl _, fun ρ w xs ds d F r K Q i hi hf hR hF ht hd hr hK hQ => ?_⟩
            have hrn : r = none := by rcases hr with h | h; exact h; cases h
            subst hrn
            cases hf
            obtain ⟨x', h1, h2⟩ := dferF_sound (P := P) (w := w) (ρ := ρ) (ev' := (⟨xs, ds⟩ : Act).eval) hx (fun x _ v hv => opv_rel (a := ⟨xs, ds⟩) hR ht hv)
            refine ent ht hi ⟨fun _ _ => trivial, ?_⟩
            have hsem : (o.semAt Fence.wide.round (⟨xs, ds⟩ : Act).eval) = execOp (⟨xs, ds⟩ : Act).eval o := rfl
            rw [hsem, h1, Oper.uponIn_defer]
            exact hK rfl _ _ ⟨ρ, Ext.refl _ _ _ _, hR, putT_rel (a := ⟨xs, x' :: ds⟩) ht undef_rel ht', by rw [put_defers]; exact h2 _ _ hd, rfl⟩
          · cases hq
        · cases hq
    | true =>
      rw [he] at hq
      simp only at hq
      split at hq
      · rename_i v s1 hef
        split at hq
        · rename_i t' ht'
          cases hq
          obtain ⟨q1, q2⟩ := effOp_sound hc hef
          refine ⟨q1, fun ρ w xs ds d F r K Q i hi hf hR hF ht hd _ hK hQ => ?_⟩
          have hp := q2 ρ w (⟨xs, ds⟩ : Act).eval hR hF (fun x _ v hv => opv_rel (a := ⟨xs, ds⟩) hR ht hv)
          refine ent ht hi (step_wp hf (isEff_nodefer he) hp ?_ ?_)
          · intro v' w' ρ' h1 h2 v hv h3
            cases hv
            exact hK rfl _ _ ⟨ρ', h1, h2, putT_rel (a := ⟨xs, ds⟩) (ht.mono h1.le) h3 ht', by rw [put_defers]; exact hd.mono h1.le, rfl⟩
          · intro v' w' ρ' _ _ v hv; cases hv
        · cases hq
      · rename_i v s1 hef
        cases hq
        obtain ⟨q1, q2⟩ := effOp_sound hc hef
        refine ⟨q1, fun ρ w xs ds d F r K Q i hi hf hR hF ht hd _ hK hQ => ?_⟩
        have hp := q2 ρ w (⟨xs, ds⟩ : Act).eval hR hF (fun x _ v hv => opv_rel (a := ⟨xs, ds⟩) hR ht hv)
        refine ent ht hi (step_wp hf (isEff_nodefer he) hp ?_ ?_)
        · intro v' w' ρ' _ _ v hv; cases hv
        · intro v' w' ρ' h1 h2 v hv h3
          cases hv
          exact hQ _ rfl _ _ _ ⟨ρ', h1, h2, ht.mono h1.le, hd.mono h1.le, v', rfl, h3⟩
      · cases hq

theorem Fin.ext {nt : Nat} {ρ ρ' : Ren} {s s' : St} {w w' : World} {out : Out} {x : Exit} {a : Act} {w'' : World} (h : Ext ρ (rdS s) w s.n s'.n ρ' (rdS s') w') (h1 : StLe s s') (h2 : StLe s' out.s)
    (hf : Fin P nt ρ' s' w' out x a w'') : Fin P nt ρ s w out x a w'' := by
  obtain ⟨ρ2, a1, a2, a3, a4, a5⟩ := hf
  exact ⟨ρ2, h.trans a1 h1.n h2.n, a2, a3, a4, a5⟩

/-- The operations of a region, in the order of the text. -/
theorem opsF_sound (hc : CallOk P call) {nt : Nat} {ops : Array Oper} : ∀ (l : List Oper) (t : Tri Value) (d : List Deferred) (s : St) (st : Steps'), opsF P call nt ops.toList l t d s = some st →
    StLe s st.out.s ∧ (st.out.d = [] → d = []) ∧ ∀ ρ w xs ds F (r : Option Nat) Q is, IL ops is l → FenceOf ρ r F → Rel P ρ (rdS s) w → Fresh ρ s.n st.out.s.n → TRel ρ t nt xs → DLRel ρ d ds →
      (r = none ∨ st.out.d = []) → (∀ x a w', Fin P nt ρ s w st.out x a w' → Q x a w') → wpOpsIn F 0 P ops Q is ⟨xs, ds⟩ w := by
  intro l
  induction l with
  | nil =>
    intro t d s st hq
    simp only [opsF] at hq
    cases hq
    refine ⟨StLe.refl _, id, fun ρ w xs ds F r Q is hil hf hR hF ht hd _ hQ => ?_⟩
    cases hil
    exact hQ _ _ _ ⟨ρ, Ext.refl _ _ _ _, hR, ht, hd, rfl⟩
  | cons o l ih =>
    intro t d s st hq
    simp only [opsF] at hq
    split at hq
    · rename_i t1 s1 h1
      obtain ⟨a1, a2⟩ := opF_sound hc h1
      obtain ⟨b1, b2, b3⟩ := ih _ _ _ _ hq
      refine ⟨a1.trans b1, b2, fun ρ w xs ds F r Q is hil hf hR hF ht hd hr hQ => ?_⟩
      cases hil with
      | cons i _ is _ hi hil =>
        rw [wpOpsIn_cons]
        refine a2 ρ w xs ds d F r _ Q i hi hf hR (hF.sub (Nat.le_refl _) b1.n) ht hd (hr.imp id b2) (fun _ a w' hfin => ?_) (fun v hv => by cases hv)
        obtain ⟨ρ1, c1, c2, c3, c4, c5⟩ := hfin
        obtain ⟨xs1, ds1⟩ := a
        exact b3 ρ1 w' xs1 ds1 F r Q is hil (hf.mono c1.le) c2 (hF.ext c1 a1.n) c3 c4 hr fun x a w'' hfin => hQ x a w'' (hfin.ext c1 a1 b1)
    · rename_i x t1 s1 h1
      obtain ⟨a1, a2⟩ := opF_sound hc h1
      obtain ⟨b1, b2, b3⟩ := ih _ _ _ _ hq
      refine ⟨a1.trans b1, fun h => absurd (b2 h) (by simp), fun ρ w xs ds F r Q is hil hf hR hF ht hd hr hQ => ?_⟩
      cases hil with
      | cons i _ is _ hi hil =>
        rw [wpOpsIn_cons]
        refine a2 ρ w xs ds d F r _ Q i hi hf hR (hF.sub (Nat.le_refl _) b1.n) ht hd (hr.imp id fun h => absurd (b2 h) (by simp)) (fun _ a w' hfin => ?_) (fun v hv => by cases hv)
        obtain ⟨ρ1, c1, c2, c3, c4, c5⟩ := hfin
        obtain ⟨xs1, ds1⟩ := a
        exact b3 ρ1 w' xs1 ds1 F r Q is hil (hf.mono c1.le) c2 (hF.ext c1 a1.n) c3 c4 hr fun x a w'' hfin => hQ x a w'' (hfin.ext c1 a1 b1)
    · rename_i v t1 s1 h1
      cases hq
      obtain ⟨a1, a2⟩ := opF_sound hc h1
      refine ⟨a1, id, fun ρ w xs ds F r Q is hil hf hR hF ht hd hr hQ => ?_⟩
      cases hil with
      | cons i _ is _ hi hil =>
        rw [wpOpsIn_cons]
        exact a2 ρ w xs ds d F r _ Q i hi hf hR hF ht hd hr (fun h => by cases h) (fun v hv x a w' hfin => hQ x a w' hfin)
    · cases hq
end
end Go.Ev

/- Regions that draw their order: what their text says. -/
namespace Go.Ev

theorem bit_eq (m i : Nat) : bit m i = m.testBit i := by
  rw [Nat.testBit_eq_decide_div_mod_eq]
  unfold bit
  have h1 : Nat.beq (Nat.mod (Nat.div m (Nat.pow 2 i)) 2) 1 = decide (m / 2 ^ i % 2 = 1) := by
    by_cases h : m / 2 ^ i % 2 = 1
    · rw [decide_eq_true h, Nat.beq_eq]; exact h
    · rw [decide_eq_false h, ← Bool.not_eq_true, Nat.beq_eq]; exact h
  exact h1
theorem bit_zero (i : Nat) : bit 0 i = false := by rw [bit_eq]; simp
theorem bit_lor (a b i : Nat) : bit (Nat.lor a b) i = (bit a i || bit b i) := by
  rw [bit_eq, bit_eq, bit_eq]; exact Nat.testBit_or a b i
theorem bit_land (a b i : Nat) : bit (Nat.land a b) i = (bit a i && bit b i) := by
  rw [bit_eq, bit_eq, bit_eq]; exact Nat.testBit_and a b i
theorem bit_pow (n i : Nat) : bit (Nat.pow 2 n) i = decide (n = i) := by
  rw [bit_eq]; exact Nat.testBit_two_pow

theorem binds_eq (e : Edge) : Region.binds .any e = bind1 e := by
  unfold Region.binds bind1
  cases e.ground <;> rfl

theorem ancOf_bit {accs : List Nat} {j : Nat} : ∀ {es : List Edge}, bit (ancOf accs es) j = true → ∃ e ∈ es, bind1 e = true ∧ (e.on = j ∨ ∃ m, accs[e.on]? = some m ∧ bit m j = true) := by
  intro es
  induction es with
  | nil => intro h; simp [ancOf, bit_zero] at h
  | cons e es ih =>
    intro h
    unfold ancOf at h
    cases hb : bind1 e with
    | false =>
      rw [hb] at h
      obtain ⟨e', h1, h2⟩ := ih h
      exact ⟨e', List.mem_cons_of_mem _ h1, h2⟩
    | true =>
      rw [hb] at h
      simp only [bit_lor, Bool.or_eq_true] at h
      rcases h with (h | h) | h
      · rw [bit_pow] at h
        exact ⟨e, List.mem_cons_self, hb, .inl (of_decide_eq_true h)⟩
      · rw [nth_eq] at h
        cases hm : accs[e.on]? with
        | none => rw [hm] at h; simp [bit_zero] at h
        | some m => rw [hm] at h; exact ⟨e, List.mem_cons_self, hb, .inr ⟨m, hm, h⟩⟩
      · obtain ⟨e', h1, h2⟩ := ih h
        exact ⟨e', List.mem_cons_of_mem _ h1, h2⟩

theorem ancs_pre : ∀ (l : List Oper) (accs : List Nat), ∃ r, ancs l accs = accs ++ r ∧ r.length = l.length := by
  intro l
  induction l with
  | nil => intro accs; exact ⟨[], by simp [ancs], rfl⟩
  | cons o l ih =>
    intro accs
    obtain ⟨r, h1, h2⟩ := ih (accs ++ [ancOf accs o.after.toList])
    exact ⟨ancOf accs o.after.toList :: r, by simp [ancs, h1], by simp [h2]⟩
theorem ancs_get : ∀ (l : List Oper) (accs : List Nat) (k : Nat) (o : Oper), l[k]? = some o →
    (ancs l accs)[accs.length + k]? = some (ancOf ((ancs l accs).take (accs.length + k)) o.after.toList) := by
  intro l
  induction l with
  | nil => intro accs k o h; simp at h
  | cons o l ih =>
    intro accs k o' h
    simp only [ancs]
    cases k with
    | zero =>
      simp at h; subst h
      obtain ⟨r, h1, _⟩ := ancs_pre l (accs ++ [ancOf accs o.after.toList])
      rw [h1]
      simp
    | succ k =>
      have := ih (accs ++ [ancOf accs o.after.toList]) k o' (by simpa using h)
      simp only [List.length_append, List.length_singleton] at this
      rw [Nat.add_assoc, Nat.add_comm 1 k] at this
      exact this

section
variable {ops : Array Oper}
/-- What has been is closed: with each operation all that it must be behind. -/
def Shut (ops : Array Oper) (D : Nat → Prop) : Prop := ∀ i, D i → ∀ o, ops[i]? = some o → ∀ e ∈ o.after.toList, bind1 e = true → D e.on
theorem anc_sub {D : Nat → Prop} (hD : Shut ops D) : ∀ (i : Nat) (o : Oper) (m : Nat), ops[i]? = some o → (ancs ops.toList [])[i]? = some m → (∀ e ∈ o.after.toList, bind1 e = true → D e.on) →
    ∀ j, bit m j = true → D j := by
  intro i
  induction i using Nat.strongRecOn with
  | _ i ih =>
    intro o m ho hm he j hj
    have hg := ancs_get ops.toList [] i o (by simpa using ho)
    simp only [List.length_nil, Nat.zero_add] at hg
    rw [hm] at hg
    have hg := Option.some.inj hg
    rw [hg] at hj
    obtain ⟨e, e1, e2, e3⟩ := ancOf_bit hj
    rcases e3 with rfl | ⟨m', f1, f2⟩
    · exact he e e1 e2
    · have hlt : e.on < i := by
        have := (List.getElem?_eq_some_iff.1 f1).1
        rw [List.length_take] at this; omega
      rw [List.getElem?_take] at f1
      simp only [hlt, if_true] at f1
      obtain ⟨o', ho'⟩ : ∃ o', ops[e.on]? = some o' := by
        have hl : e.on < (ancs ops.toList []).length := (List.getElem?_eq_some_iff.1 f1).1
        obtain ⟨r, r1, r2⟩ := ancs_pre ops.toList []
        rw [r1] at hl; simp [r2] at hl
        exact ⟨_, Array.getElem?_eq_getElem hl⟩
      exact ih e.on hlt o' m' ho' f1 (fun e' he' hb' => hD e.on (he e e1 e2) o' ho' e' he' hb') j f2

theorem okPairs_get {an : List Nat} {i : Nat} {oi : Oper} : ∀ (l : List Oper) (j0 : Nat), okPairs an i oi l j0 = true → ∀ (k : Nat) (oj : Oper), l[k]? = some oj → ∃ m, an[j0 + k]? = some m ∧ okPair m i oi oj = true := by
  intro l
  induction l with
  | nil => intro j0 _ k oj h; simp at h
  | cons o l ih =>
    intro j0 h k oj hk
    unfold okPairs at h
    rw [nth_eq] at h
    split at h
    · rename_i m hm
      split at h
      · rename_i hp
        cases k with
        | zero => simp at hk; subst hk; exact ⟨m, hm, hp⟩
        | succ k =>
          obtain ⟨m', a, b⟩ := ih _ h k oj (by simpa using hk)
          refine ⟨m', ?_, b⟩
          have : j0 + (k + 1) = Nat.add j0 1 + k := by simp; omega
          rw [this]; exact a
      · cases h
    · cases h
theorem okDraw_get {an : List Nat} : ∀ (l : List Oper) (i0 : Nat), okDrawGo an l i0 = true → ∀ (k : Nat) (o : Oper), l[k]? = some o →
    ∃ m, an[i0 + k]? = some m ∧ okEdges (i0 + k) o.after.toList = true ∧ okGuard m o = true ∧ okPairs an (i0 + k) o (l.drop (k + 1)) (i0 + k + 1) = true := by
  intro l
  induction l with
  | nil => intro i0 _ k o h; simp at h
  | cons o l ih =>
    intro i0 h k o' hk
    unfold okDrawGo at h
    rw [nth_eq] at h
    split at h
    · rename_i m hm
      split at h
      · rename_i h1 h2 h3
        cases k with
        | zero => simp at hk; subst hk; exact ⟨m, hm, h1, h3, h2⟩
        | succ k =>
          obtain ⟨m', a, b, c, d⟩ := ih _ h k o' (by simpa using hk)
          have : i0 + (k + 1) = Nat.add i0 1 + k := by simp; omega
          exact ⟨m', by rw [this]; exact a, by rw [this]; exact b, c, by rw [this]; exact d⟩
      · cases h
    · cases h
theorem okEdges_mem {i : Nat} : ∀ {l : List Edge}, okEdges i l = true → ∀ e ∈ l, bind1 e = true → e.on < i := by
  intro l
  induction l with
  | nil => intro _ e he; cases he
  | cons e l ih =>
    intro h e' he' hb
    unfold okEdges at h
    rcases List.mem_cons.1 he' with rfl | he'
    · rw [hb] at h
      simp only at h
      split at h
      · rename_i hle; exact Nat.le_of_ble_eq_true hle
      · cases h
    · split at h
      · split at h
        · exact ih h e' he' hb
        · cases h
      · exact ih h e' he' hb

theorem usesTmp_mem {t : Nat} : ∀ {l : List Operand}, .tmp t ∈ l → usesTmp t l = true := by
  intro l
  induction l with
  | nil => intro h; cases h
  | cons x l ih =>
    intro h
    rcases List.mem_cons.1 h with h | h
    · subst h; simp [usesTmp]
    · have := ih h
      cases x with
      | tmp u => simp only [usesTmp]; split <;> first | rfl | exact this
      | _ => simp only [usesTmp]; exact this

/-- What is known of the pairs. -/
theorem draw_facts (h : okDrawGo (ancs ops.toList []) ops.toList 0 = true) :
    (∀ (i : Nat) (o : Oper), ops[i]? = some o → ∃ m, (ancs ops.toList [])[i]? = some m ∧ (∀ e ∈ o.after.toList, bind1 e = true → e.on < i) ∧ (∀ j w, o.guard = some (j, w) → bit m j = true)) ∧
    (∀ (i j : Nat) (oi oj : Oper) (d : Tmp), ops[i]? = some oi → ops[j]? = some oj → i ≠ j → oi.dst = some d → oj.dst ≠ some d) ∧
    (∀ (i j : Nat) (oi oj : Oper) (mi mj : Nat) (d : Tmp), ops[i]? = some oi → ops[j]? = some oj → (ancs ops.toList [])[i]? = some mi → (ancs ops.toList [])[j]? = some mj → i ≠ j → oj.dst = some d → .tmp d ∈ oi.op.operands.toList →
      bit mi j = true ∨ bit mj i = true) := by
  have get : ∀ (i : Nat) (o : Oper), ops[i]? = some o → ops.toList[i]? = some o := fun i o h => by rw [Array.getElem?_toList]; exact h
  have pair : ∀ (i j : Nat) (oi oj : Oper) (mj : Nat), ops[i]? = some oi → ops[j]? = some oj → (ancs ops.toList [])[j]? = some mj → i < j → okPair mj i oi oj = true := by
    intro i j oi oj mj hi hj hm hlt
    obtain ⟨m, _, _, _, h4⟩ := okDraw_get _ _ h i oi (get i oi hi)
    obtain ⟨m', h5, h6⟩ := okPairs_get _ _ h4 (j - (i + 1)) oj (by
      rw [List.getElem?_drop]
      have : i + 1 + (j - (i + 1)) = j := by omega
      rw [this]; exact get j oj hj)
    have : 0 + i + 1 + (j - (i + 1)) = j := by omega
    rw [this, hm] at h5
    cases h5
    simpa using h6
  have have_m : ∀ (i : Nat) (o : Oper), ops[i]? = some o → ∃ m, (ancs ops.toList [])[i]? = some m := by
    intro i o ho
    obtain ⟨m, h1, _⟩ := okDraw_get _ _ h i o (get i o ho)
    exact ⟨m, by simpa using h1⟩
  have uniq : ∀ (i j : Nat) (oi oj : Oper) (d : Tmp), ops[i]? = some oi → ops[j]? = some oj → i < j → oi.dst = some d → oj.dst = some d → False := by
    intro i j oi oj d hi hj hlt h1 h2
    obtain ⟨mj, hm⟩ := have_m j oj hj
    have hp := pair i j oi oj mj hi hj hm hlt
    simp [okPair, h1, h2] at hp
  refine ⟨?_, ?_, ?_⟩
  · intro i o ho
    obtain ⟨m, h1, h2, h3, _⟩ := okDraw_get _ _ h i o (get i o ho)
    refine ⟨m, by simpa using h1, fun e he hb => by simpa using okEdges_mem h2 e he hb, fun j w hg => ?_⟩
    simpa [okGuard, hg] using h3
  · intro i j oi oj d hi hj hne h1 h2
    rcases Nat.lt_or_gt_of_ne hne with hlt | hlt
    · exact uniq i j oi oj d hi hj hlt h1 h2
    · exact uniq j i oj oi d hj hi hlt h2 h1
  · intro i j oi oj mi mj d hi hj hmi hmj hne h1 h2
    have hu := usesTmp_mem h2
    rcases Nat.lt_or_gt_of_ne hne with hlt | hlt
    · right
      have hp := pair i j oi oj mj hi hj hmj hlt
      unfold okPair at hp
      split at hp
      · cases hp
      · split at hp
        · assumption
        · rw [h1] at hp
          simp only [hu] at hp
          split at hp
          · rename_i h3; cases h3
          · cases hp
    · left
      have hp := pair j i oj oi mi hj hi hmi hlt
      unfold okPair at hp
      split at hp
      · cases hp
      · split at hp
        · assumption
        · rw [h1] at hp
          simp only [hu] at hp
          cases hp

/-- Bits that are a list. -/
def Bits (m : Nat) (l : List Nat) : Prop := ∀ j, bit m j = true ↔ j ∈ l
theorem Bits.push {m : Nat} {l : List Nat} (h : Bits m l) (i : Nat) : Bits (Nat.lor m (Nat.pow 2 i)) (l ++ [i]) := by
  intro j
  rw [bit_lor, bit_pow, Bool.or_eq_true, h j]
  simp [eq_comm]
theorem land_sub {a m : Nat} (h : Nat.land m a = m) {j : Nat} (hj : bit m j = true) : bit a j = true := by
  rw [← h, bit_land] at hj
  simp at hj; exact hj.2

theorem chkS_inv {an : List Nat} : ∀ (l : List Nat) (done d : Nat) (pre : List Nat), Bits done pre → chkS ops.toList an l done = some d →
    Bits d (pre ++ l) ∧ ∀ A i B, l = A ++ i :: B → i ∉ pre ++ A ∧ ∃ o m, ops[i]? = some o ∧ an[i]? = some m ∧ (isEff o = true → Bits m (pre ++ A)) ∧ (∀ j, bit m j = true → j ∈ pre ++ A) := by
  intro l
  induction l with
  | nil => intro done d pre hb h; simp [chkS] at h; subst h; exact ⟨by simpa using hb, fun A i B h => by simp at h⟩
  | cons i l ih =>
    intro done d pre hb h
    simp only [chkS, nth_eq] at h
    split at h
    · rename_i o m hbit ho hm
      split at h
      · rename_i hok
        obtain ⟨h1, h2⟩ := ih _ _ _ (hb.push i) h
        have hi : i ∉ pre := fun hx => by rw [(hb i).2 hx] at hbit; cases hbit
        have hfacts : (isEff o = true → Bits m pre) ∧ (∀ j, bit m j = true → j ∈ pre) := by
          cases he : isEff o with
          | true =>
            rw [he] at hok
            have : m = done := Nat.eq_of_beq_eq_true hok
            subst this
            exact ⟨fun _ => hb, fun j hj => (hb j).1 hj⟩
          | false =>
            rw [he] at hok
            have := Nat.eq_of_beq_eq_true hok
            exact ⟨(fun h => by cases h), fun j hj => (hb j).1 (land_sub this hj)⟩
        refine ⟨by simpa using h1, fun A i' B heq => ?_⟩
        cases A with
        | nil =>
          simp at heq
          obtain ⟨rfl, rfl⟩ := heq
          exact ⟨by simpa using hi, o, m, by simpa using ho, hm, by simpa using hfacts.1, by simpa using hfacts.2⟩
        | cons a A =>
          simp at heq
          obtain ⟨rfl, rfl⟩ := heq
          have := h2 A i' B rfl
          simpa using this
      · cases h
    · cases h
theorem allBits_mem {m : Nat} : ∀ {l : List Nat}, allBits m l = true → ∀ e ∈ l, bit m e = true := by
  intro l
  induction l with
  | nil => intro _ e he; cases he
  | cons x l ih =>
    intro h e he
    unfold allBits at h
    split at h
    · rename_i hx
      rcases List.mem_cons.1 he with rfl | he
      · exact hx
      · exact ih h e he
    · cases h
theorem chkT_inv {an effs : List Nat} : ∀ (l : List Nat) (done d : Nat) (pre : List Nat), Bits done pre → chkT ops.toList an effs l done = some d →
    Bits d (pre ++ l) ∧ ∀ A i B, l = A ++ i :: B → i ∉ pre ++ A ∧ ∃ o m, ops[i]? = some o ∧ an[i]? = some m ∧ (∀ j, bit m j = true → j ∈ pre ++ A) ∧ (isStore o = true → ∀ e ∈ effs, bit m e = true) := by
  intro l
  induction l with
  | nil => intro done d pre hb h; simp [chkT] at h; subst h; exact ⟨by simpa using hb, fun A i B h => by simp at h⟩
  | cons i l ih =>
    intro done d pre hb h
    simp only [chkT, nth_eq] at h
    split at h
    · rename_i o m hbit ho hm
      split at h
      · rename_i hok hst
        obtain ⟨h1, h2⟩ := ih _ _ _ (hb.push i) h
        have hi : i ∉ pre := fun hx => by rw [(hb i).2 hx] at hbit; cases hbit
        have hsub : ∀ j, bit m j = true → j ∈ pre := fun j hj => (hb j).1 (land_sub (Nat.eq_of_beq_eq_true hok) hj)
        have hse : isStore o = true → ∀ e ∈ effs, bit m e = true := by
          intro hs
          rw [hs] at hst
          exact allBits_mem hst
        refine ⟨by simpa using h1, fun A i' B heq => ?_⟩
        cases A with
        | nil =>
          simp at heq
          obtain ⟨rfl, rfl⟩ := heq
          exact ⟨by simpa using hi, o, m, by simpa using ho, hm, by simpa using hsub, hse⟩
        | cons a A =>
          simp at heq
          obtain ⟨rfl, rfl⟩ := heq
          have := h2 A i' B rfl
          simpa using this
      · cases h
    · cases h
theorem leftOf_nil {done : Nat} : ∀ (l : List Oper) (i0 : Nat), leftOf done l i0 = [] → ∀ k, k < l.length → bit done (i0 + k) = true := by
  intro l
  induction l with
  | nil => intro i0 _ k hk; simp at hk
  | cons o l ih =>
    intro i0 h k hk
    unfold leftOf at h
    split at h
    · cases h
    · rename_i hb
      cases k with
      | zero => simpa using hb
      | succ k =>
        have := ih _ h k (by simpa using hk)
        have e : i0 + (k + 1) = Nat.add i0 1 + k := by simp; omega
        rw [e]; exact this
theorem endsEff_last : ∀ (l : List Nat) (x : Nat), endsEff ops.toList (l ++ [x]) = true → ∃ o, ops[x]? = some o ∧ isEff o = true := by
  intro l
  induction l with
  | nil =>
    intro x h
    simp only [List.nil_append, endsEff, nth_eq] at h
    split at h
    · rename_i o ho; exact ⟨o, by simpa using ho, h⟩
    · cases h
  | cons a l ih =>
    intro x h
    cases l with
    | nil => simp only [List.cons_append, List.nil_append, endsEff] at h ih ⊢; exact ih x h
    | cons b l => simp only [List.cons_append, endsEff] at h ih ⊢; exact ih x h
theorem effsOf_append (ol : List Oper) : ∀ (a b : List Nat), effsOf ol (a ++ b) = effsOf ol a ++ effsOf ol b := by
  intro a
  induction a with
  | nil => intro b; rfl
  | cons i a ih =>
    intro b
    simp only [List.cons_append, effsOf]
    split
    · split
      · rw [ih]; rfl
      · exact ih b
    · exact ih b
theorem effsOf_mem (l : List Nat) : ∀ x, x ∈ effsOf ops.toList l ↔ x ∈ l ∧ ∃ o, ops[x]? = some o ∧ isEff o = true := by
  induction l with
  | nil => intro x; simp [effsOf]
  | cons i l ih =>
    intro x
    simp only [effsOf, nth_eq]
    split
    · rename_i o ho
      have ho : ops[i]? = some o := by simpa using ho
      split
      · rename_i he
        rw [List.mem_cons, ih x, List.mem_cons]
        constructor
        · rintro (rfl | ⟨h1, h2⟩)
          · exact ⟨.inl rfl, o, ho, he⟩
          · exact ⟨.inr h1, h2⟩
        · rintro ⟨rfl | h1, h2⟩
          · exact .inl rfl
          · exact .inr ⟨h1, h2⟩
      · rename_i he
        rw [ih x, List.mem_cons]
        constructor
        · rintro ⟨h1, h2⟩; exact ⟨.inr h1, h2⟩
        · rintro ⟨rfl | h1, o', h2, h3⟩
          · rw [ho] at h2; cases h2; rw [h3] at he; cases he
          · exact ⟨h1, o', h2, h3⟩
    · rename_i ho
      have ho : ops[i]? = none := by simpa using ho
      rw [ih x, List.mem_cons]
      constructor
      · rintro ⟨h1, h2⟩; exact ⟨.inr h1, h2⟩
      · rintro ⟨rfl | h1, o', h2, h3⟩
        · rw [ho] at h2; cases h2
        · exact ⟨h1, o', h2, h3⟩
theorem cntE_append (m : Nat) : ∀ (a b : List Nat), cntE m (a ++ b) = cntE m a + cntE m b := by
  intro a
  induction a with
  | nil => intro b; simp [cntE]
  | cons e a ih =>
    intro b
    simp only [List.cons_append, cntE]
    split
    · rw [ih]; simp; omega
    · exact ih b
theorem cntE_le (m : Nat) : ∀ (a : List Nat), cntE m a ≤ a.length := by
  intro a
  induction a with
  | nil => simp [cntE]
  | cons e a ih => simp only [cntE]; split <;> simp <;> omega
theorem cntE_zero (m : Nat) : ∀ (a : List Nat), (∀ e ∈ a, bit m e = false) → cntE m a = 0 := by
  intro a
  induction a with
  | nil => intro _; rfl
  | cons e a ih => intro h; simp only [cntE, h e List.mem_cons_self]; exact ih fun x hx => h x (List.mem_cons_of_mem _ hx)
end
end Go.Ev

/- Regions that draw their order: the run in the plan's order, as a list. -/
namespace Go.Ev

/-- One operation of the run: its place, what stands before, what it comes to, the block that it lays or turns. -/
structure Rc where
  i : Nat
  o : Oper
  t : Tri Value
  s : St
  v : Value
  t' : Tri Value
  s' : St
  wr : Option (Nat × AObj)

section
variable (P : Program) (call : CallF) (nt : Nat) (ops : Array Oper) (effs : List Nat)
def RK (c : List Nat) (m : Nat) (r : Rc) : Prop :=
  (wantF ops.toList r.t r.o = false ∧ r.v = undef ∧ r.s' = r.s ∧ r.wr = none) ∨
  (wantF ops.toList r.t r.o = true ∧ isEff r.o = true ∧ effOp P call (opv P r.t) r.s r.o = some ⟨.ret r.v, r.s'⟩ ∧ r.wr = none) ∨
  (wantF ops.toList r.t r.o = true ∧ isEff r.o = false ∧ ∃ lim po, nth c (cntE m effs) = some lim ∧ pureOp P (opv P r.t) (rdL r.s lim) r.o = some po ∧
    match po with
    | .val v => r.v = v ∧ r.s' = r.s ∧ r.wr = none
    | .new o nv => r.v = nv.at r.s.n ∧ r.s' = r.s.new o ∧ r.wr = some (r.s.n, o))
inductive Tr : List Nat → Tri Value → St → List Rc → List Nat → Tri Value → St → Prop
  | nil (c : List Nat) (t : Tri Value) (s : St) : Tr c t s [] c t s
  | cons (r : Rc) (m : Nat) (c : List Nat) (rs : List Rc) (c' : List Nat) (t' : Tri Value) (s' : St) : ops[r.i]? = some r.o → (ancs ops.toList [])[r.i]? = some m →
      putT nt r.t r.o.dst r.v = some r.t' → RK P call ops effs c m r → Tr (clkE r.o c r.s'.n) r.t' r.s' rs c' t' s' → Tr c r.t r.s (r :: rs) c' t' s'

def TlK (hit : List Nat) (r : Rc) (hit' : List Nat) : Prop :=
  (wantF ops.toList r.t r.o = false ∧ r.v = undef ∧ r.s' = r.s ∧ r.wr = none ∧ hit' = hit) ∨
  (wantF ops.toList r.t r.o = true ∧ ∃ ty a x al v n cs m e opn fz, r.o.op = .store ty a x ∧ opv P r.t a = some (.pointer (some al)) ∧ opv P r.t x = some v ∧ sizeT P ty = some n ∧ (cellsV v).length = n ∧
    memN al.block hit = false ∧ al.spot = none ∧ rdS r.s al.block = some (.row cs m e opn fz) ∧ al.off + (cellsV v).length ≤ m ∧ oneL (cellsV v) = true ∧
    r.s' = r.s.put al.block (.row (setCells (cellsV v) al.off cs) m e opn fz) ∧ r.v = undef ∧ r.wr = some (al.block, .row (setCells (cellsV v) al.off cs) m e opn fz) ∧ hit' = al.block :: hit) ∨
  (wantF ops.toList r.t r.o = true ∧ isEff r.o = false ∧ pureOp P (opv P r.t) (fun _ => none) r.o = some (.val r.v) ∧ r.s' = r.s ∧ r.wr = none ∧ hit' = hit)
inductive TT : List Nat → Tri Value → St → List Rc → Tri Value → St → Prop
  | nil (hit : List Nat) (t : Tri Value) (s : St) : TT hit t s [] t s
  | cons (r : Rc) (hit hit' : List Nat) (rs : List Rc) (t' : Tri Value) (s' : St) : ops[r.i]? = some r.o → putT nt r.t r.o.dst r.v = some r.t' → TlK P ops hit r hit' →
      TT hit' r.t' r.s' rs t' s' → TT hit r.t r.s (r :: rs) t' s'

/-- The temporaries' part. -/
inductive TmpTr : Tri Value → List Rc → Tri Value → Prop
  | nil (t : Tri Value) : TmpTr t [] t
  | cons (r : Rc) (rs : List Rc) (t' : Tri Value) : putT nt r.t r.o.dst r.v = some r.t' → TmpTr r.t' rs t' → TmpTr r.t (r :: rs) t'
end

section
variable {P : Program} {call : CallF} {nt : Nat} {ops : Array Oper} {effs : List Nat}
theorem seqF_tr : ∀ (l : List Nat) (c : List Nat) (t : Tri Value) (s : St) (t' : Tri Value) (s' : St), seqF P call nt ops.toList (ancs ops.toList []) effs l c t s = some (t', s') →
    ∃ rs c', rs.map (·.i) = l ∧ Tr P call nt ops effs c t s rs c' t' s' := by
  intro l
  induction l with
  | nil => intro c t s t' s' h; simp [seqF] at h; obtain ⟨rfl, rfl⟩ := h; exact ⟨[], c, rfl, .nil _ _ _⟩
  | cons i l ih =>
    intro c t s t' s' h
    simp only [seqF, nth_eq] at h
    split at h
    · rename_i o m ho hm
      have ho : ops[i]? = some o := by simpa using ho
      split at h
      · rename_i hw
        split at h
        · rename_i t1 ht1
          obtain ⟨rs, c', h1, h2⟩ := ih _ _ _ _ _ h
          exact ⟨⟨i, o, t, s, undef, t1, s, none⟩ :: rs, c', by simp [h1], .cons ⟨i, o, t, s, undef, t1, s, none⟩ m c rs c' t' s' ho hm ht1 (.inl ⟨hw, rfl, rfl, rfl⟩) h2⟩
        · cases h
      · rename_i hw
        split at h
        · rename_i he
          split at h
          · rename_i v s1 hef
            split at h
            · rename_i t1 ht1
              obtain ⟨rs, c', h1, h2⟩ := ih _ _ _ _ _ h
              have hclk : clkE o c s1.n = c ++ [s1.n] := by simp [clkE, he]
              exact ⟨⟨i, o, t, s, v, t1, s1, none⟩ :: rs, c', by simp [h1], .cons ⟨i, o, t, s, v, t1, s1, none⟩ m c rs c' t' s' ho hm ht1 (.inr (.inl ⟨hw, he, hef, rfl⟩)) (by simp only [hclk]; exact h2)⟩
            · cases h
          · cases h
        · rename_i he
          have hclk : ∀ n, clkE o c n = c := by intro n; simp [clkE, he]
          split at h
          · rename_i lim hlim
            split at h
            · rename_i po hpo
              split at h
              · rename_i t1 ht1
                obtain ⟨rs, c', h1, h2⟩ := ih _ _ _ _ _ h
                cases po with
                | val v =>
                  exact ⟨⟨i, o, t, s, v, t1, s, none⟩ :: rs, c', by simp [h1], .cons ⟨i, o, t, s, v, t1, s, none⟩ m c rs c' t' s' ho hm ht1 (.inr (.inr ⟨hw, he, lim, .val v, by rw [nth_eq]; exact hlim, hpo, rfl, rfl, rfl⟩)) (by simp only [hclk]; exact h2)⟩
                | new ob nv =>
                  exact ⟨⟨i, o, t, s, nv.at s.n, t1, s.new ob, some (s.n, ob)⟩ :: rs, c', by simp [h1], .cons ⟨i, o, t, s, nv.at s.n, t1, s.new ob, some (s.n, ob)⟩ m c rs c' t' s' ho hm ht1 (.inr (.inr ⟨hw, he, lim, .new ob nv, by rw [nth_eq]; exact hlim, hpo, rfl, rfl, rfl⟩)) (by simp only [hclk]; exact h2)⟩
              · cases h
            · cases h
          · cases h
    · cases h

theorem tailF_tt : ∀ (l hit : List Nat) (t : Tri Value) (s : St) (t' : Tri Value) (s' : St), tailF P nt ops.toList l hit t s = some (t', s') →
    ∃ rs, rs.map (·.i) = l ∧ TT P nt ops hit t s rs t' s' := by
  intro l
  induction l with
  | nil => intro hit t s t' s' h; simp [tailF] at h; obtain ⟨rfl, rfl⟩ := h; exact ⟨[], rfl, .nil _ _ _⟩
  | cons i l ih =>
    intro hit t s t' s' h
    simp only [tailF, nth_eq] at h
    split at h
    · cases h
    · rename_i o ho
      have ho : ops[i]? = some o := by simpa using ho
      split at h
      · rename_i hw
        split at h
        · rename_i t1 ht1
          obtain ⟨rs, h1, h2⟩ := ih _ _ _ _ _ h
          exact ⟨⟨i, o, t, s, undef, t1, s, none⟩ :: rs, by simp [h1], .cons ⟨i, o, t, s, undef, t1, s, none⟩ hit hit rs t' s' ho ht1 (.inl ⟨hw, rfl, rfl, rfl, rfl⟩) h2⟩
        · cases h
      · rename_i hw
        split at h
        · rename_i ty a x hop
          split at h
          · rename_i al v n ha hx hsz
            split at h
            · rename_i hlen hmem
              split at h
              · rename_i s1 t1 hst ht1
                obtain ⟨rs, h1, h2⟩ := ih _ _ _ _ _ h
                unfold storeA at hst
                split at hst
                · rename_i cs m e opn fz hsp hrow
                  split at hst
                  · rename_i hle hone
                    cases hst
                    exact ⟨⟨i, o, t, s, undef, t1, s.put al.block (.row (setCells (cellsV v) al.off cs) m e opn fz), some (al.block, .row (setCells (cellsV v) al.off cs) m e opn fz)⟩ :: rs, by simp [h1],
                      .cons ⟨i, o, t, s, undef, t1, s.put al.block (.row (setCells (cellsV v) al.off cs) m e opn fz), some (al.block, .row (setCells (cellsV v) al.off cs) m e opn fz)⟩ hit (al.block :: hit) rs t' s' ho ht1
                        (.inr (.inl ⟨hw, ty, a, x, al, v, n, cs, m, e, opn, fz, hop, ha, hx, hsz, Nat.eq_of_beq_eq_true hlen, hmem, hsp, hrow, Nat.le_of_ble_eq_true hle, hone, rfl, rfl, rfl, rfl⟩)) h2⟩
                  · cases hst
                · cases hst
              · cases h
            · cases h
          · cases h
        · split at h
          · rename_i v he hpo
            split at h
            · rename_i t1 ht1
              obtain ⟨rs, h1, h2⟩ := ih _ _ _ _ _ h
              exact ⟨⟨i, o, t, s, v, t1, s, none⟩ :: rs, by simp [h1], .cons ⟨i, o, t, s, v, t1, s, none⟩ hit hit rs t' s' ho ht1 (.inr (.inr ⟨hw, he, hpo, rfl, rfl, rfl⟩)) h2⟩
            · cases h
          · cases h

theorem Tr.split : ∀ {X Y : List Rc} {c : List Nat} {t : Tri Value} {s : St} {c' : List Nat} {t' : Tri Value} {s' : St}, Tr P call nt ops effs c t s (X ++ Y) c' t' s' →
    ∃ c1 t1 s1, Tr P call nt ops effs c t s X c1 t1 s1 ∧ Tr P call nt ops effs c1 t1 s1 Y c' t' s' := by
  intro X
  induction X with
  | nil => intro Y c t s c' t' s' h; exact ⟨c, t, s, .nil _ _ _, h⟩
  | cons r X ih =>
    intro Y c t s c' t' s' h
    cases h with
    | cons _ m _ _ _ _ _ h1 h2 h3 h4 h5 =>
      obtain ⟨c1, t1, s1, a, b⟩ := ih h5
      exact ⟨c1, t1, s1, .cons r m c X c1 t1 s1 h1 h2 h3 h4 a, b⟩
theorem Tr.append : ∀ {X Y : List Rc} {c : List Nat} {t : Tri Value} {s : St} {c1 : List Nat} {t1 : Tri Value} {s1 : St} {c' : List Nat} {t' : Tri Value} {s' : St},
    Tr P call nt ops effs c t s X c1 t1 s1 → Tr P call nt ops effs c1 t1 s1 Y c' t' s' → Tr P call nt ops effs c t s (X ++ Y) c' t' s' := by
  intro X
  induction X with
  | nil => intro Y c t s c1 t1 s1 c' t' s' h h'; cases h; exact h'
  | cons r X ih =>
    intro Y c t s c1 t1 s1 c' t' s' h h'
    cases h with
    | cons _ m _ _ _ _ _ h1 h2 h3 h4 h5 => exact .cons r m c (X ++ Y) c' t' s' h1 h2 h3 h4 (ih h5 h')
theorem TT.split : ∀ {X Y : List Rc} {hit : List Nat} {t : Tri Value} {s : St} {t' : Tri Value} {s' : St}, TT P nt ops hit t s (X ++ Y) t' s' →
    ∃ hit1 t1 s1, TT P nt ops hit t s X t1 s1 ∧ TT P nt ops hit1 t1 s1 Y t' s' ∧ (∀ b, b ∈ hit1 ↔ b ∈ hit ∨ ∃ r ∈ X, ∃ o, r.wr = some (b, o)) := by
  intro X
  induction X with
  | nil => intro Y hit t s t' s' h; exact ⟨hit, t, s, .nil _ _ _, h, by simp⟩
  | cons r X ih =>
    intro Y hit t s t' s' h
    cases h with
    | cons _ _ hit' _ _ _ h1 h3 h4 h5 =>
      obtain ⟨hit1, t1, s1, a, b, c⟩ := ih h5
      refine ⟨hit1, t1, s1, .cons r hit hit' X t1 s1 h1 h3 h4 a, b, fun x => ?_⟩
      rw [c x]
      have hh : x ∈ hit' ↔ x ∈ hit ∨ ∃ o, r.wr = some (x, o) := by
        rcases h4 with ⟨_, _, _, e1, e2⟩ | ⟨_, ty, a, y, al, v, n, cs, m, e, opn, fz, _, _, _, _, _, _, _, _, _, _, _, _, e1, e2⟩ | ⟨_, _, _, _, e1, e2⟩
        · rw [e2, e1]; simp
        · rw [e2, e1]; simp; rw [or_comm, eq_comm]
        · rw [e2, e1]; simp
      rw [hh]
      simp [or_assoc]

theorem RK.le (hc : CallOk P call) {c : List Nat} {m : Nat} {r : Rc} (h : RK P call ops effs c m r) : StLe r.s r.s' := by
  rcases h with ⟨_, _, h, _⟩ | ⟨_, _, h, _⟩ | ⟨_, _, lim, po, _, _, h⟩
  · rw [h]; exact StLe.refl _
  · exact (effOp_sound hc h).1
  · cases po with
    | val v => rw [h.2.1]; exact StLe.refl _
    | new o nv => rw [h.2.1]; exact StLe.new _ _
theorem Tr.le (hc : CallOk P call) : ∀ {X : List Rc} {c : List Nat} {t : Tri Value} {s : St} {c' : List Nat} {t' : Tri Value} {s' : St}, Tr P call nt ops effs c t s X c' t' s' → StLe s s' := by
  intro X
  induction X with
  | nil => intro c t s c' t' s' h; cases h; exact StLe.refl _
  | cons r X ih => intro c t s c' t' s' h; cases h with | cons _ m _ _ _ _ _ h1 h2 h3 h4 h5 => exact (h4.le hc).trans (ih h5)
theorem TT.le : ∀ {X : List Rc} {hit : List Nat} {t : Tri Value} {s : St} {t' : Tri Value} {s' : St}, TT P nt ops hit t s X t' s' → StLe s s' := by
  intro X
  induction X with
  | nil => intro c t s t' s' h; cases h; exact StLe.refl _
  | cons r X ih =>
    intro c t s t' s' h
    cases h with
    | cons _ _ hit' _ _ _ h1 h3 h4 h5 =>
      refine StLe.trans ?_ (ih h5)
      rcases h4 with ⟨_, _, e, _⟩ | ⟨_, ty, a, y, al, v, n, cs, m, e, opn, fz, _, _, _, _, _, _, _, hrow, _, _, e1, _⟩ | ⟨_, _, _, e, _⟩
      · rw [e]; exact StLe.refl _
      · rw [e1]; exact StLe.put _ _ _ ⟨_, hrow⟩
      · rw [e]; exact StLe.refl _
theorem Tr.tmp : ∀ {X : List Rc} {c : List Nat} {t : Tri Value} {s : St} {c' : List Nat} {t' : Tri Value} {s' : St}, Tr P call nt ops effs c t s X c' t' s' → TmpTr nt t X t' := by
  intro X
  induction X with
  | nil => intro c t s c' t' s' h; cases h; exact .nil _
  | cons r X ih => intro c t s c' t' s' h; cases h with | cons _ m _ _ _ _ _ h1 h2 h3 h4 h5 => exact .cons r X t' h3 (ih h5)
theorem TT.tmp : ∀ {X : List Rc} {hit : List Nat} {t : Tri Value} {s : St} {t' : Tri Value} {s' : St}, TT P nt ops hit t s X t' s' → TmpTr nt t X t' := by
  intro X
  induction X with
  | nil => intro hit t s t' s' h; cases h; exact .nil _
  | cons r X ih => intro hit t s t' s' h; cases h with | cons _ _ _ _ _ _ h1 h3 h4 h5 => exact .cons r X t' h3 (ih h5)
theorem TmpTr.append : ∀ {X Y : List Rc} {t t1 t' : Tri Value}, TmpTr nt t X t1 → TmpTr nt t1 Y t' → TmpTr nt t (X ++ Y) t' := by
  intro X
  induction X with
  | nil => intro Y t t1 t' h h'; cases h; exact h'
  | cons r X ih => intro Y t t1 t' h h'; cases h with | cons _ _ _ h1 h2 => exact .cons r _ t' h1 (ih h2 h')
/-- Each temporary is set once. -/
theorem TmpTr.get : ∀ {X : List Rc} {t t' : Tri Value}, TmpTr nt t X t' → X.Pairwise (fun r r' => ∀ d, r.o.dst = some d → r'.o.dst ≠ some d) →
    (∀ r ∈ X, ∀ d, r.o.dst = some d → t'.get d = some r.v ∧ d < nt) ∧ ∀ d, (∀ r ∈ X, r.o.dst ≠ some d) → t'.get d = t.get d := by
  intro X
  induction X with
  | nil => intro t t' h _; cases h; exact ⟨(fun r hr => by cases hr), fun _ _ => rfl⟩
  | cons r X ih =>
    intro t t' h hp
    cases h with
    | cons _ _ _ h1 h2 =>
      obtain ⟨hp1, hp2⟩ := List.pairwise_cons.1 hp
      obtain ⟨a, b⟩ := ih h2 hp2
      have hput : ∀ d, (r.o.dst = some d → r.t'.get d = some r.v ∧ d < nt) ∧ (r.o.dst ≠ some d → r.t'.get d = r.t.get d) := by
        intro d
        unfold putT at h1
        split at h1
        · rename_i hd
          have h1 := Option.some.inj h1
          rw [hd, ← h1]
          exact ⟨(fun h => by cases h), fun _ => rfl⟩
        · rename_i e hd
          split at h1
          · rename_i hlt
            have h1 := Option.some.inj h1
            rw [hd, ← h1, Tri.get_set]
            constructor
            · intro h; cases h; exact ⟨by simp, Nat.le_of_ble_eq_true hlt⟩
            · intro h
              have : ¬ d = e := fun h' => h (by rw [h'])
              simp [this]
          · cases h1
      refine ⟨fun q hq d hd => ?_, fun d hd => ?_⟩
      · rcases List.mem_cons.1 hq with rfl | hq
        · rw [b d (fun q' hq' => hp1 q' hq' d hd)]
          exact (hput d).1 hd
        · exact a q hq d hd
      · rw [b d (fun q hq => hd q (List.mem_cons_of_mem _ hq))]
        exact (hput d).2 (hd r List.mem_cons_self)

/-- What stands behind light operations. -/
def Hd (h0 : Hp) (rs : List Rc) (D : Nat → Prop) (h : Hp) : Prop :=
  ∀ a o, h a = some o ↔ (∃ r ∈ rs, D r.i ∧ r.wr = some (a, o)) ∨ (h0 a = some o ∧ ∀ r ∈ rs, D r.i → ∀ o', r.wr ≠ some (a, o'))
theorem Hd.nil (h0 : Hp) (D : Nat → Prop) : Hd h0 [] D h0 := by intro a o; simp

def lightTo (r : Rc) : Prop := (r.wr = none ∧ r.s' = r.s) ∨ ∃ a o, r.wr = some (a, o) ∧ r.s' = r.s.put a o
inductive LT : St → List Rc → St → Prop
  | nil (s : St) : LT s [] s
  | cons (r : Rc) (rs : List Rc) (s' : St) : lightTo r → LT r.s' rs s' → LT r.s (r :: rs) s'
theorem LT.hd : ∀ {X : List Rc} {s s' : St}, LT s X s' → X.Pairwise (fun r r' => ∀ a o o', r.wr = some (a, o) → r'.wr ≠ some (a, o')) → Hd (rdS s) X (fun _ => True) (rdS s') := by
  intro X
  induction X with
  | nil => intro s s' h _; cases h; exact Hd.nil _ _
  | cons r X ih =>
    intro s s' h hp
    cases h with
    | cons _ _ _ hl h =>
      obtain ⟨hp1, hp2⟩ := List.pairwise_cons.1 hp
      have := ih h hp2
      intro a o
      rw [this a o]
      rcases hl with ⟨e1, e2⟩ | ⟨b, ob, e1, e2⟩
      · rw [e2]; simp [e1]
      · rw [e2, rdS_put]
        unfold Hp.upd
        by_cases hab : a = b
        · subst hab
          simp only [if_true]
          constructor
          · rintro (⟨q, hq, h1, h2⟩ | ⟨h1, h2⟩)
            · exact absurd h2 (hp1 q hq a ob o e1)
            · cases h1; exact .inl ⟨r, List.mem_cons_self, trivial, e1⟩
          · rintro (⟨q, hq, h1, h2⟩ | ⟨h1, h2⟩)
            · rcases List.mem_cons.1 hq with rfl | hq
              · rw [e1] at h2; cases h2
                exact .inr ⟨rfl, fun q hq _ o' => hp1 q hq a o o' e1⟩
              · exact absurd h2 (hp1 q hq a ob o e1)
            · exact absurd e1 (h2 r List.mem_cons_self trivial ob)
        · simp only [if_neg hab]
          have hr : ∀ o', r.wr ≠ some (a, o') := by intro o' h; rw [e1] at h; cases h; exact hab rfl
          simp [hr]
theorem new_put (s : St) (o : AObj) : s.new o = s.put s.n o := rfl
theorem Tr.light : ∀ {X : List Rc} {c : List Nat} {t : Tri Value} {s : St} {c' : List Nat} {t' : Tri Value} {s' : St}, Tr P call nt ops effs c t s X c' t' s' → (∀ r ∈ X, isEff r.o = false) → LT s X s' := by
  intro X
  induction X with
  | nil => intro c t s c' t' s' h _; cases h; exact .nil _
  | cons r X ih =>
    intro c t s c' t' s' h he
    cases h with
    | cons _ m _ _ _ _ _ h1 h2 h3 h4 h5 =>
      refine .cons r X s' ?_ (ih h5 fun q hq => he q (List.mem_cons_of_mem _ hq))
      rcases h4 with ⟨_, _, e1, e2⟩ | ⟨_, e, _⟩ | ⟨_, _, lim, po, _, _, h⟩
      · exact .inl ⟨e2, e1⟩
      · rw [he r List.mem_cons_self] at e; cases e
      · cases po with
        | val v => exact .inl ⟨h.2.2, h.2.1⟩
        | new o nv => exact .inr ⟨_, _, h.2.2, h.2.1⟩
theorem TT.light : ∀ {X : List Rc} {hit : List Nat} {t : Tri Value} {s : St} {t' : Tri Value} {s' : St}, TT P nt ops hit t s X t' s' → LT s X s' := by
  intro X
  induction X with
  | nil => intro hit t s t' s' h; cases h; exact .nil _
  | cons r X ih =>
    intro hit t s t' s' h
    cases h with
    | cons _ _ _ _ _ _ h1 h3 h4 h5 =>
      refine .cons r X s' ?_ (ih h5)
      rcases h4 with ⟨_, _, e1, e2, _⟩ | ⟨_, ty, a, y, al, v, n, cs, m, e, opn, fz, _, _, _, _, _, _, _, hrow, _, _, e1, _, e2, _⟩ | ⟨_, _, _, e1, e2, _⟩
      · exact .inl ⟨e2, e1⟩
      · exact .inr ⟨_, _, e2, e1⟩
      · exact .inl ⟨e2, e1⟩
/-- The names that are laid. -/
theorem Tr.names (hc : CallOk P call) : ∀ {X : List Rc} {c : List Nat} {t : Tri Value} {s : St} {c' : List Nat} {t' : Tri Value} {s' : St}, Tr P call nt ops effs c t s X c' t' s' →
    ∀ r ∈ X, s.n ≤ r.s.n ∧ r.s'.n ≤ s'.n ∧ ∀ a o, r.wr = some (a, o) → a = r.s.n ∧ r.s.n < r.s'.n := by
  intro X
  induction X with
  | nil => intro c t s c' t' s' _ r hr; cases hr
  | cons q X ih =>
    intro c t s c' t' s' h r hr
    cases h with
    | cons _ m _ _ _ _ _ h1 h2 h3 h4 h5 =>
      rcases List.mem_cons.1 hr with rfl | hr
      · refine ⟨Nat.le_refl _, (h5.le hc).n, fun a o hw => ?_⟩
        rcases h4 with ⟨_, _, e1, e2⟩ | ⟨_, _, _, e2⟩ | ⟨_, _, lim, po, _, _, h⟩
        · rw [e2] at hw; cases hw
        · rw [e2] at hw; cases hw
        · cases po with
          | val v => rw [h.2.2] at hw; cases hw
          | new o nv => rw [h.2.2] at hw; cases hw; exact ⟨rfl, by rw [h.2.1]; exact Nat.lt_succ_self _⟩
      · obtain ⟨a, b, c⟩ := ih h5 r hr
        exact ⟨Nat.le_trans (h4.le hc).n a, b, c⟩
theorem Tr.pair (hc : CallOk P call) : ∀ {X : List Rc} {c : List Nat} {t : Tri Value} {s : St} {c' : List Nat} {t' : Tri Value} {s' : St}, Tr P call nt ops effs c t s X c' t' s' →
    X.Pairwise (fun r r' => ∀ a o o', r.wr = some (a, o) → r'.wr ≠ some (a, o')) := by
  intro X
  induction X with
  | nil => intro c t s c' t' s' _; exact .nil
  | cons q X ih =>
    intro c t s c' t' s' h
    have h0 := h.names hc q List.mem_cons_self
    cases h with
    | cons _ m _ _ _ _ _ h1 h2 h3 h4 h5 =>
      refine .cons (fun r hr a o o' e1 e2 => ?_) (ih h5)
      obtain ⟨x1, x2, x3⟩ := h5.names hc r hr
      have := h0.2.2 a o e1
      have := x3 a o' e2
      omega
theorem TT.pair : ∀ {X : List Rc} {hit : List Nat} {t : Tri Value} {s : St} {t' : Tri Value} {s' : St}, TT P nt ops hit t s X t' s' →
    X.Pairwise (fun r r' => ∀ a o o', r.wr = some (a, o) → r'.wr ≠ some (a, o')) ∧ ∀ r ∈ X, ∀ b ∈ hit, ∀ o, r.wr ≠ some (b, o) := by
  intro X
  induction X with
  | nil => intro hit t s t' s' _; exact ⟨.nil, fun r hr => by cases hr⟩
  | cons q X ih =>
    intro hit t s t' s' h
    cases h with
    | cons _ _ hit' _ _ _ h1 h3 h4 h5 =>
      obtain ⟨a, b⟩ := ih h5
      have hh : (∀ x ∈ hit, x ∈ hit') ∧ (∀ x o, q.wr = some (x, o) → x ∈ hit' ∧ memN x hit = false) := by
        rcases h4 with ⟨_, _, _, e1, e2⟩ | ⟨_, ty, a, y, al, v, n, cs, m, e, opn, fz, _, _, _, _, _, hm, _, _, _, _, _, _, e1, e2⟩ | ⟨_, _, _, _, e1, e2⟩
        · rw [e2, e1]; exact ⟨fun _ h => h, fun x o h => by cases h⟩
        · rw [e2, e1]; exact ⟨fun _ h => List.mem_cons_of_mem _ h, fun x o h => by cases h; exact ⟨List.mem_cons_self, hm⟩⟩
        · rw [e2, e1]; exact ⟨fun _ h => h, fun x o h => by cases h⟩
      have memN_eq : ∀ (x : Nat) (l : List Nat), memN x l = true ↔ x ∈ l := by
        intro x l
        induction l with
        | nil => simp [memN]
        | cons y l ihl =>
          unfold memN
          cases hxy : Nat.beq x y with
          | true => have := Nat.eq_of_beq_eq_true hxy; subst this; simp
          | false =>
            have : x ≠ y := fun h => by subst h; simp at hxy
            simp [ihl, this]
      refine ⟨.cons (fun r hr x o o' e1 => b r hr x (hh.2 x o e1).1 o') a, fun r hr x hx o => ?_⟩
      rcases List.mem_cons.1 hr with rfl | hr
      · intro e
        have := (hh.2 x o e).2
        rw [(memN_eq x hit).2 hx] at this; cases this
      · exact b r hr x (hh.1 x hx) o
/-- The marks. -/
theorem Tr.clk (hc : CallOk P call) : ∀ {X : List Rc} {c : List Nat} {t : Tri Value} {s : St} {c' : List Nat} {t' : Tri Value} {s' : St}, Tr P call nt ops effs c t s X c' t' s' →
    c'.length = c.length + (effsOf ops.toList (X.map (·.i))).length ∧ (∀ q, q < c.length → c'[q]? = c[q]?) ∧ ((∀ x ∈ c, x ≤ s.n) → ∀ x ∈ c', x ≤ s'.n) := by
  intro X
  induction X with
  | nil => intro c t s c' t' s' h; cases h; exact ⟨by simp [effsOf], fun _ _ => rfl, id⟩
  | cons r X ih =>
    intro c t s c' t' s' h
    cases h with
    | cons _ m _ _ _ _ _ h1 h2 h3 h4 h5 =>
      obtain ⟨a, b, d⟩ := ih h5
      have ho : nth ops.toList r.i = some r.o := by rw [nth_eq]; simpa using h1
      have hle := (h4.le hc).n
      cases he : isEff r.o with
      | true =>
        have hk : clkE r.o c r.s'.n = c ++ [r.s'.n] := by simp [clkE, he]
        rw [hk] at a b d
        refine ⟨?_, fun q hq => ?_, fun hx => d fun x hm => ?_⟩
        · rw [a]; simp [effsOf, ho, he]; omega
        · rw [b q (by simp; omega), List.getElem?_append_left hq]
        · rcases List.mem_append.1 hm with hm | hm
          · exact Nat.le_trans (hx x hm) hle
          · simp at hm; omega
      | false =>
        have hk : clkE r.o c r.s'.n = c := by simp [clkE, he]
        rw [hk] at a b d
        refine ⟨?_, b, fun hx => d fun x hm => Nat.le_trans (hx x hm) hle⟩
        rw [a]; simp [effsOf, ho, he]
end
end Go.Ev

/- Regions that draw their order: any order does as the plan's does. -/
namespace Go.Ev

theorem pw_of {l : List Rc} (h : ∀ A r B, l = A ++ r :: B → r.i ∉ A.map (·.i)) : l.Pairwise (fun a b => a.i ≠ b.i) := by
  induction l with
  | nil => exact .nil
  | cons x l ih =>
    refine .cons (fun b hb e => ?_) (ih fun A r B e hm => h (x :: A) r B (by rw [e]; rfl) (by simp only [List.map_cons]; exact List.mem_cons_of_mem _ hm))
    obtain ⟨X, Y, rfl⟩ := List.append_of_mem hb
    exact h (x :: X) b Y rfl (by simp [e])
theorem pw_uniq {l : List Rc} (h : l.Pairwise (fun a b => a.i ≠ b.i)) : ∀ q ∈ l, ∀ r ∈ l, q.i = r.i → q = r := by
  induction l with
  | nil => intro q hq; cases hq
  | cons x l ih =>
    obtain ⟨h1, h2⟩ := List.pairwise_cons.1 h
    intro q hq r hr e
    rcases List.mem_cons.1 hq with rfl | hq'
    · rcases List.mem_cons.1 hr with rfl | hr'
      · rfl
      · exact absurd e (h1 r hr')
    · rcases List.mem_cons.1 hr with rfl | hr'
      · exact absurd e.symm (h1 q hq')
      · exact ih h2 q hq' r hr' e

/-- A step on a part of the memory is one on the whole. -/
theorem ext_whole {P : Program} {ρ ρ' : Ren} {h h1 h1' : Hp} {w w' : World} {m m' : Nat} (hR : Rel P ρ h w) (hs : ∀ a o, h1 a = some o → h a = some o) (he : Ext ρ h1 w m m' ρ' h1' w') (hR' : Rel P ρ' h1' w') :
    Ext ρ h w m m' ρ' (fun a => match h1' a with | some o => some o | none => match h1 a with | some _ => none | none => h a) w' ∧
    Rel P ρ' (fun a => match h1' a with | some o => some o | none => match h1 a with | some _ => none | none => h a) w' := by
  have cs : ∀ a o, (match h1' a with | some o => some o | none => match h1 a with | some _ => none | none => h a) = some o → h1' a = some o ∨ (h1 a = none ∧ h a = some o) := by
    intro a o e
    split at e
    · rename_i o' ho; cases e; exact .inl ho
    · split at e
      · cases e
      · rename_i hn; exact .inr ⟨hn, e⟩
  have blk : ∀ a o l, h a = some o → ρ a = some l → l.b < w.heap.size := by
    intro a o l ha hl
    obtain ⟨l', ob, q1, q2, _⟩ := hR.obj a o ha
    rw [hl] at q1; cases q1
    rcases Nat.lt_or_ge l.b w.heap.size with h | h
    · exact h
    · rw [Array.getElem?_eq_none h] at q2; cases q2
  have apart : ∀ a o l, h1 a = none → h a = some o → ρ a = some l → ∀ b o' l', h1 b = some o' → ρ b = some l' → l'.b ≠ l.b := by
    intro a o l h1a ha hl b o' l' hb hl'
    exact hR.inj b a o' o l' l (hs _ _ hb) ha hl' hl (fun e => by subst e; rw [h1a] at hb; cases hb)
  constructor
  · refine ⟨he.le, he.new, he.size, he.os, he.tape, he.output, fun a o l e e' => ?_, fun k hk hf => he.frame k hk fun a o l e e' => hf a o l (hs _ _ e) e'⟩
    rcases cs a o e with h' | ⟨h1a, h'⟩
    · rcases he.own a o l h' e' with h | ⟨a0, o0, l0, q1, q2, q3⟩
      · exact .inl h
      · exact .inr ⟨a0, o0, l0, hs _ _ q1, q2, q3⟩
    · obtain ⟨l', ob, q1, _⟩ := hR.obj a o h'
      have := he.le _ _ q1
      rw [e'] at this; cases this
      exact .inr ⟨a, o, l, h', q1, rfl⟩
  · refine ⟨fun a o e => ?_, fun a b o o' l l' e e' f f' hne => ?_, hR'.glob⟩
    · rcases cs a o e with h' | ⟨h1a, h'⟩
      · exact hR'.obj a o h'
      · obtain ⟨l, ob, q1, q2, q3⟩ := hR.obj a o h'
        refine ⟨l, ob, he.le _ _ q1, ?_, q3.mono he.le⟩
        rw [he.frame l.b (blk a o l h' q1) (apart a o l h1a h' q1)]
        exact q2
    · have cross : ∀ a b o o' l l', h1' a = some o → h1 b = none → h b = some o' → ρ' a = some l → ρ' b = some l' → l.b ≠ l'.b := by
        intro a b o o' l l' ha h1b hb f f'
        obtain ⟨lb, ob, q1, _⟩ := hR.obj b o' hb
        have := he.le _ _ q1
        rw [f'] at this; cases this
        rcases he.own a o l ha f with hn | ⟨a0, o0, l0, r1, r2, r3⟩
        · have := blk b o' l' hb q1; omega
        · rw [← r3]; exact apart b o' l' h1b hb q1 a0 o0 l0 r1 r2
      rcases cs a o e with h' | ⟨h1a, h'⟩
      · rcases cs b o' e' with h'' | ⟨h1b, h''⟩
        · exact hR'.inj a b o o' l l' h' h'' f f' hne
        · exact cross a b o o' l l' h' h1b h'' f f'
      · rcases cs b o' e' with h'' | ⟨h1b, h''⟩
        · exact fun q => cross b a o' o l' l h'' h1a h' f' f q.symm
        · obtain ⟨la, oa, q1, _⟩ := hR.obj a o h'
          obtain ⟨lb, ob, q2, _⟩ := hR.obj b o' h''
          have g1 := he.le _ _ q1
          have g2 := he.le _ _ q2
          rw [f] at g1; cases g1
          rw [f'] at g2; cases g2
          exact hR.inj a b o o' l l' h' h'' q1 q2 hne

theorem Ext.trans' {ρ ρ1 ρ2 : Ren} {h h1 h2 : Hp} {w w1 w2 : World} {n n' m m' : Nat} (a : Ext ρ h w n n' ρ1 h1 w1) (b : Ext ρ1 h1 w1 m m' ρ2 h2 w2) (hm : n ≤ m) (hm' : m' ≤ n') : Ext ρ h w n n' ρ2 h2 w2 where
  le := a.le.trans b.le
  new := fun x l e => by
    rcases b.new x l e with h | h
    · exact a.new x l h
    · exact .inr ⟨by omega, by omega⟩
  size := Nat.le_trans a.size b.size
  os := b.os.trans a.os
  tape := b.tape.trans a.tape
  output := b.output.trans a.output
  own := fun x o l e e' => by
    rcases b.own x o l e e' with h | ⟨a0, o0, l0, q1, q2, q3⟩
    · exact .inl (Nat.le_trans a.size h)
    · rcases a.own a0 o0 l0 q1 q2 with h | ⟨a1, o1, l1, r1, r2, r3⟩
      · exact .inl (q3 ▸ h)
      · exact .inr ⟨a1, o1, l1, r1, r2, r3.trans q3⟩
  frame := fun k hk hf => by
    rw [b.frame k (Nat.lt_of_lt_of_le hk a.size) ?_, a.frame k hk hf]
    intro x o l e e'
    rcases a.own x o l e e' with h | ⟨a0, o0, l0, q1, q2, q3⟩
    · omega
    · rw [← q3]; exact hf a0 o0 l0 q1 q2

/-- What is fixed of a drawing region's run. -/
structure Cx (P : Program) (call : CallF) (nt : Nat) (ops : Array Oper) (effs : List Nat) (ρ0 : Ren) (s0 : St) (t0 : Tri Value) (S T : List Rc) (cS : List Nat) (tS : Tri Value) (sS : St) (tF : Tri Value) (sF : St) : Prop where
  hc : CallOk P call
  trS : Tr P call nt ops effs [s0.n] t0 s0 S cS tS sS
  trT : TT P nt ops [] tS sS T tF sF
  at_ : ∀ r ∈ S ++ T, ops[r.i]? = some r.o
  grd : ∀ (i : Nat) (o : Oper), ops[i]? = some o → ∃ m, (ancs ops.toList [])[i]? = some m ∧ (∀ e ∈ o.after.toList, bind1 e = true → e.on < i) ∧ (∀ j w, o.guard = some (j, w) → bit m j = true)
  dst : ∀ (i j : Nat) (oi oj : Oper) (d : Tmp), ops[i]? = some oi → ops[j]? = some oj → i ≠ j → oi.dst = some d → oj.dst ≠ some d
  use : ∀ (i j : Nat) (oi oj : Oper) (mi mj : Nat) (d : Tmp), ops[i]? = some oi → ops[j]? = some oj → (ancs ops.toList [])[i]? = some mi → (ancs ops.toList [])[j]? = some mj → i ≠ j → oj.dst = some d → .tmp d ∈ oi.op.operands.toList →
      bit mi j = true ∨ bit mj i = true
  ord : ∀ A r B, S ++ T = A ++ r :: B → r.i ∉ A.map (·.i) ∧ ∀ m, (ancs ops.toList [])[r.i]? = some m → ∀ j, bit m j = true → j ∈ A.map (·.i)
  effS : ∀ A r B, S = A ++ r :: B → isEff r.o = true → ∀ m, (ancs ops.toList [])[r.i]? = some m → ∀ q ∈ A, bit m q.i = true
  stT : ∀ r ∈ T, isStore r.o = true → ∀ m, (ancs ops.toList [])[r.i]? = some m → ∀ e ∈ effs, bit m e = true
  effs_eq : effs = effsOf ops.toList (S.map (·.i))
  all : ∀ i, i < ops.size → ∃ r ∈ S ++ T, r.i = i
  ends : T = [] ∨ endsEff ops.toList (S.map (·.i)) = true
  fresh : Fresh ρ0 s0.n sF.n
  dom0 : ∀ a o, rdS s0 a = some o → a < s0.n ∨ sF.n ≤ a

/-- What holds when the operations D have been. -/
structure Inv (P : Program) (call : CallF) (nt : Nat) (ops : Array Oper) (effs : List Nat) (ρ0 : Ren) (s0 : St) (w0 : World) (t0 : Tri Value) (S T : List Rc) (cS : List Nat) (tS : Tri Value) (sS : St) (sF : St)
    (D : Nat → Prop) (A B : List Rc) (cA : List Nat) (tA : Tri Value) (sA : St) (ρ : Ren) (h : Hp) (w : World) (xs : Array Value) : Prop where
  sp : S = A ++ B
  tr1 : Tr P call nt ops effs [s0.n] t0 s0 A cA tA sA
  tr2 : Tr P call nt ops effs cA tA sA B cS tS sS
  inA : ∀ r ∈ A, D r.i
  effB : ∀ r ∈ B, isEff r.o = true → ¬ D r.i
  st : ∀ r ∈ T, D r.i → r.wr ≠ none → B = []
  hd : Hd (rdS sA) (B ++ T) D h
  rel : Rel P ρ h w
  ext : Ext ρ0 (rdS s0) w0 s0.n sF.n ρ h w
  nm : ∀ a l, ρ a = some l → ρ0 a = some l ∨ a < sA.n ∨ ∃ r ∈ B, D r.i ∧ ∃ o, r.wr = some (a, o)
  xsz : xs.size = nt
  tm1 : ∀ r ∈ S ++ T, D r.i → ∀ d, r.o.dst = some d → ∃ v', xs[d]? = some v' ∧ VRel ρ r.v v'
  tm0 : ∀ d, d < nt → (∀ r ∈ S ++ T, D r.i → r.o.dst ≠ some d) → ∃ v', xs[d]? = some v' ∧ VRel ρ ((t0.get d).getD undef) v'

section
variable {P : Program} {call : CallF} {nt : Nat} {ops : Array Oper} {effs : List Nat} {ρ0 : Ren} {s0 : St} {w0 : World} {t0 : Tri Value} {S T : List Rc} {cS : List Nat} {tS : Tri Value} {sS : St} {tF : Tri Value} {sF : St}

theorem Cx.pw (cx : Cx P call nt ops effs ρ0 s0 t0 S T cS tS sS tF sF) : (S ++ T).Pairwise (fun a b => a.i ≠ b.i) := pw_of fun A r B e => (cx.ord A r B e).1
theorem Cx.uq (cx : Cx P call nt ops effs ρ0 s0 t0 S T cS tS sS tF sF) {q r : Rc} (hq : q ∈ S ++ T) (hr : r ∈ S ++ T) (e : q.i = r.i) : q = r := pw_uniq cx.pw q hq r hr e
theorem Cx.dpw (cx : Cx P call nt ops effs ρ0 s0 t0 S T cS tS sS tF sF) : (S ++ T).Pairwise (fun r r' => ∀ d, r.o.dst = some d → r'.o.dst ≠ some d) := by
  refine cx.pw.imp_of_mem fun {a b} ha hb hne d hd => ?_
  exact cx.dst a.i b.i a.o b.o d (cx.at_ a ha) (cx.at_ b hb) hne hd
theorem Cx.tmp (cx : Cx P call nt ops effs ρ0 s0 t0 S T cS tS sS tF sF) : TmpTr nt t0 (S ++ T) tF := cx.trS.tmp.append cx.trT.tmp
/-- The temporaries ahead of an operation. -/
theorem TmpTr.split : ∀ {X Y : List Rc} {t t' : Tri Value}, TmpTr nt t (X ++ Y) t' → ∃ t1, TmpTr nt t X t1 ∧ TmpTr nt t1 Y t' := by
  intro X
  induction X with
  | nil => intro Y t t' h; exact ⟨t, .nil _, h⟩
  | cons r X ih => intro Y t t' h; cases h with | cons _ _ _ h1 h2 => obtain ⟨t1, a, b⟩ := ih h2; exact ⟨t1, .cons r X t1 h1 a, b⟩
theorem TmpTr.at_ {X Y : List Rc} {r : Rc} {t t' : Tri Value} (h : TmpTr nt t (X ++ r :: Y) t') : TmpTr nt t X r.t := by
  obtain ⟨t1, a, b⟩ := h.split
  cases b
  exact a

theorem Cx.dom (cx : Cx P call nt ops effs ρ0 s0 t0 S T cS tS sS tF sF) {s : St} (h : StLe s0 s) {a : Nat} {o : AObj} (e : rdS s a = some o) : a < s.n ∨ sF.n ≤ a := by
  rcases Nat.lt_or_ge a s.n with hlt | hge
  · exact .inl hlt
  · unfold rdS at e
    split at e
    · rename_i k o' heq
      obtain ⟨y, hy⟩ := h.dom a _ heq hge
      have : ∃ o2, rdS s0 a = some o2 := by unfold rdS; rw [hy]; exact ⟨_, rfl⟩
      obtain ⟨o2, ho2⟩ := this
      rcases cx.dom0 a o2 ho2 with h1 | h1
      · have := h.n; omega
      · exact .inr h1
    · cases e
theorem Cx.sSF (cx : Cx P call nt ops effs ρ0 s0 t0 S T cS tS sS tF sF) : StLe sS sF := cx.trT.le

variable {D : Nat → Prop} {A B : List Rc} {cA : List Nat} {tA : Tri Value} {sA : St} {ρ : Ren} {h : Hp} {w : World} {xs : Array Value}

/-- An operation's operands, whatever has been beside. -/
theorem Inv.opv (cx : Cx P call nt ops effs ρ0 s0 t0 S T cS tS sS tF sF) (iv : Inv P call nt ops effs ρ0 s0 w0 t0 S T cS tS sS sF D A B cA tA sA ρ h w xs)
    (ht0 : ∀ i, nt ≤ i → t0.get i = none) {X Y : List Rc} {r : Rc} (hs : S ++ T = X ++ r :: Y) (hD : ¬ D r.i) (ha : ∀ m, (ancs ops.toList [])[r.i]? = some m → ∀ j, bit m j = true → D j)
    (hsh : ∀ q ∈ S ++ T, D q.i → ∀ m, (ancs ops.toList [])[q.i]? = some m → ∀ j, bit m j = true → D j) (ds : List Deferred) :
    ∀ x ∈ r.o.op.operands, ∀ v, opv P r.t x = some v → VRel ρ v ((⟨xs, ds⟩ : Act).eval x) := by
  intro x hx v hv
  have hr : r ∈ S ++ T := by rw [hs]; simp
  have htmp := cx.tmp
  rw [hs] at htmp
  have hpw := cx.dpw
  rw [hs] at hpw
  have hpx : X.Pairwise (fun r r' => ∀ d, r.o.dst = some d → r'.o.dst ≠ some d) := (List.pairwise_append.1 hpw).1
  obtain ⟨g1, g2⟩ := htmp.at_.get hpx
  cases x with
  | tmp d =>
    have key : VRel ρ ((r.t.get d).getD undef) ((⟨xs, ds⟩ : Act).eval (.tmp d)) := by
      obtain ⟨m, hm⟩ : ∃ m, (ancs ops.toList [])[r.i]? = some m := by obtain ⟨m, h1, _⟩ := cx.grd r.i r.o (cx.at_ r hr); exact ⟨m, h1⟩
      by_cases hw : ∃ q ∈ X, q.o.dst = some d
      · obtain ⟨q, hq, hqd⟩ := hw
        have hqm : q ∈ S ++ T := by rw [hs]; exact List.mem_append_left _ hq
        have hne : r.i ≠ q.i := fun e => (cx.ord X r Y hs).1 (by rw [e]; exact List.mem_map_of_mem hq)
        obtain ⟨mq, hmq⟩ : ∃ m, (ancs ops.toList [])[q.i]? = some m := by obtain ⟨m, h1, _⟩ := cx.grd q.i q.o (cx.at_ q hqm); exact ⟨m, h1⟩
        have hu := cx.use r.i q.i r.o q.o m mq d (cx.at_ r hr) (cx.at_ q hqm) hm hmq hne hqd (by simpa using hx)
        rcases hu with hu | hu
        · obtain ⟨v', e1, e2⟩ := iv.tm1 q hqm (ha m hm _ hu) d hqd
          rw [(g1 q hq d hqd).1]
          have : (⟨xs, ds⟩ : Act).eval (.tmp d) = v' := by simp [Act.eval, e1]
          rw [this]; exact e2
        · exfalso
          obtain ⟨X1, X2, rfl⟩ := List.append_of_mem hq
          have := (cx.ord X1 q (X2 ++ r :: Y) (by rw [hs]; simp)).2 mq hmq _ hu
          exact (cx.ord _ r Y hs).1 (by simp; exact .inl (by simpa using this))
      · have hw : ∀ q ∈ X, q.o.dst ≠ some d := fun q hq e => hw ⟨q, hq, e⟩
        rw [g2 d hw]
        rcases Nat.lt_or_ge d nt with hdn | hdn
        · obtain ⟨v', e1, e2⟩ := iv.tm0 d hdn (fun q hqm hDq e => by
            have hne : q.i ≠ r.i := fun e' => hD (e' ▸ hDq)
            obtain ⟨mq, hmq⟩ : ∃ m, (ancs ops.toList [])[q.i]? = some m := by obtain ⟨m, h1, _⟩ := cx.grd q.i q.o (cx.at_ q hqm); exact ⟨m, h1⟩
            rcases cx.use r.i q.i r.o q.o m mq d (cx.at_ r hr) (cx.at_ q hqm) hm hmq (Ne.symm hne) e (by simpa using hx) with hu | hu
            · have hin := (cx.ord X r Y hs).2 m hm _ hu
              obtain ⟨q', hq', e'⟩ := List.mem_map.1 hin
              have : q' = q := cx.uq (by rw [hs]; exact List.mem_append_left _ hq') hqm e'
              subst this
              exact hw q' hq' e
            · exact hD (hsh q hqm hDq mq hmq _ hu))
          have : (⟨xs, ds⟩ : Act).eval (.tmp d) = v' := by simp [Act.eval, e1]
          rw [this]; exact e2
        · have h1 : xs[d]? = none := Array.getElem?_eq_none (by rw [iv.xsz]; exact hdn)
          have : (⟨xs, ds⟩ : Act).eval (.tmp d) = undef := by simp [Act.eval, h1]
          rw [ht0 d hdn, this]; exact undef_rel
    simp only [Ev.opv] at hv
    split at hv
    · rename_i u hu; cases hv; rw [hu] at key; exact key
    · rename_i hu; cases hv; rw [hu] at key; exact key
  | const c =>
    simp only [Ev.opv] at hv
    split at hv
    · rename_i hf; cases hv; exact flat_rel ρ hf
    · cases hv
  | global g =>
    simp only [Ev.opv] at hv
    split at hv
    · rename_i hg; cases hv
      exact VRel.ptr (ρ := ρ) g 0 _ (iv.rel.glob g (Nat.le_of_ble_eq_true hg))
    · cases hv
  | func f =>
    simp only [Ev.opv] at hv
    cases hv
    exact .fn f [] [] [] [] .nil .nil

/-- Whether an operation is wanted, whatever has been beside. -/
theorem Inv.want (cx : Cx P call nt ops effs ρ0 s0 t0 S T cS tS sS tF sF) (iv : Inv P call nt ops effs ρ0 s0 w0 t0 S T cS tS sS sF D A B cA tA sA ρ h w xs)
    {X Y : List Rc} {r : Rc} (hs : S ++ T = X ++ r :: Y) (ha : ∀ m, (ancs ops.toList [])[r.i]? = some m → ∀ j, bit m j = true → D j) :
    Region.wanted r.o (yielded ops xs) = wantF ops.toList r.t r.o := by
  have hr : r ∈ S ++ T := by rw [hs]; simp
  unfold Region.wanted wantF
  cases hg : r.o.guard with
  | none => rfl
  | some jw =>
    obtain ⟨j, want⟩ := jw
    simp only
    obtain ⟨m, hm, _, hb⟩ := cx.grd r.i r.o (cx.at_ r hr)
    have hbit := hb j want hg
    obtain ⟨q, hq, rfl⟩ := List.mem_map.1 ((cx.ord X r Y hs).2 m hm j hbit)
    have hqm : q ∈ S ++ T := by rw [hs]; exact List.mem_append_left _ hq
    unfold yielded
    rw [nth_eq, Array.getElem?_toList, cx.at_ q hqm]
    simp only [Option.bind_some]
    cases hd : q.o.dst with
    | none => rfl
    | some d =>
      simp only [Option.bind_some]
      obtain ⟨v', e1, e2⟩ := iv.tm1 q hqm (ha m hm _ hbit) d hd
      have htmp := cx.tmp
      rw [hs] at htmp
      have hpw := cx.dpw
      rw [hs] at hpw
      obtain ⟨g1, _⟩ := htmp.at_.get (List.pairwise_append.1 hpw).1
      have hv := (g1 q hq d hd).1
      unfold lkB
      rw [e1, hv]
      revert e2
      generalize q.v = u
      intro e2
      cases e2 <;> first | rfl | exact (eqB_eq _ _).symm

/-- The temporaries behind an operation. -/
theorem Inv.tmp' (cx : Cx P call nt ops effs ρ0 s0 t0 S T cS tS sS tF sF) (iv : Inv P call nt ops effs ρ0 s0 w0 t0 S T cS tS sS sF D A B cA tA sA ρ h w xs) {r : Rc} (hr : r ∈ S ++ T) {ρ' : Ren} (hle : ρ.le ρ') {v' : Value} (hv : VRel ρ' r.v v') (ds : List Deferred) :
    ((⟨xs, ds⟩ : Act).put r.o.dst v').tmps.size = nt ∧
    (∀ q ∈ S ++ T, (D q.i ∨ q.i = r.i) → ∀ d, q.o.dst = some d → ∃ u, ((⟨xs, ds⟩ : Act).put r.o.dst v').tmps[d]? = some u ∧ VRel ρ' q.v u) ∧
    (∀ d, d < nt → (∀ q ∈ S ++ T, (D q.i ∨ q.i = r.i) → q.o.dst ≠ some d) → ∃ u, ((⟨xs, ds⟩ : Act).put r.o.dst v').tmps[d]? = some u ∧ VRel ρ' ((t0.get d).getD undef) u) := by
  have hlt := (cx.tmp.get cx.dpw).1
  refine ⟨?_, fun q hq hD d hd => ?_, fun d hdn hno => ?_⟩
  · cases r.o.dst <;> simp [Act.put, iv.xsz]
  · by_cases e : q.i = r.i
    · have := cx.uq hq hr e
      subst this
      refine ⟨v', ?_, hv⟩
      have := (hlt q hq d hd).2
      simp [Act.put, hd, iv.xsz, this]
    · have hDq : D q.i := hD.resolve_right e
      obtain ⟨u, e1, e2⟩ := iv.tm1 q hq hDq d hd
      refine ⟨u, ?_, e2.mono hle⟩
      cases hrd : r.o.dst with
      | none => exact e1
      | some d' =>
        have : d' ≠ d := fun h' => by
          subst h'
          exact cx.dst r.i q.i r.o q.o d' (cx.at_ r hr) (cx.at_ q hq) (Ne.symm e) hrd hd
        simp only [Act.put]
        rw [Array.getElem?_setIfInBounds_ne this]; exact e1
  · obtain ⟨u, e1, e2⟩ := iv.tm0 d hdn (fun q hq hDq => hno q hq (.inl hDq))
    refine ⟨u, ?_, e2.mono hle⟩
    cases hrd : r.o.dst with
    | none => exact e1
    | some d' =>
      have : d' ≠ d := fun h' => hno r hr (.inr rfl) (by rw [hrd, h'])
      simp only [Act.put]
      rw [Array.getElem?_setIfInBounds_ne this]; exact e1
end
end Go.Ev

/- Regions that draw their order: the steps. -/
namespace Go.Ev
section
variable {P : Program} {call : CallF} {nt : Nat} {ops : Array Oper} {effs : List Nat} {ρ0 : Ren} {s0 : St} {w0 : World} {t0 : Tri Value} {S T : List Rc} {cS : List Nat} {tS : Tri Value} {sS : St} {tF : Tri Value} {sF : St}
variable {D : Nat → Prop} {A B : List Rc} {cA : List Nat} {tA : Tri Value} {sA : St} {ρ : Ren} {h : Hp} {w : World} {xs : Array Value}

theorem Cx.ST (cx : Cx P call nt ops effs ρ0 s0 t0 S T cS tS sS tF sF) {q r : Rc} (hq : q ∈ S) (hr : r ∈ T) : q.i ≠ r.i := (List.pairwise_append.1 cx.pw).2.2 q hq r hr

/-- The names that stand in B. -/
theorem Inv.nB (cx : Cx P call nt ops effs ρ0 s0 t0 S T cS tS sS tF sF) (iv : Inv P call nt ops effs ρ0 s0 w0 t0 S T cS tS sS sF D A B cA tA sA ρ h w xs) {q : Rc} (hq : q ∈ B) {a : Nat} {o : AObj} (hw : q.wr = some (a, o)) :
    sA.n ≤ a ∧ a < sF.n ∧ a = q.s.n := by
  obtain ⟨h1, h2, h3⟩ := iv.tr2.names cx.hc q hq
  obtain ⟨e, h4⟩ := h3 a o hw
  have := cx.sSF.n
  omega
theorem Inv.le0 (cx : Cx P call nt ops effs ρ0 s0 t0 S T cS tS sS tF sF) (iv : Inv P call nt ops effs ρ0 s0 w0 t0 S T cS tS sS sF D A B cA tA sA ρ h w xs) : StLe s0 sA := iv.tr1.le cx.hc
theorem Inv.hA (cx : Cx P call nt ops effs ρ0 s0 t0 S T cS tS sS tF sF) (iv : Inv P call nt ops effs ρ0 s0 w0 t0 S T cS tS sS sF D A B cA tA sA ρ h w xs) (hB : B ≠ []) {a : Nat} {o : AObj} (e : rdS sA a = some o) : h a = some o := by
  refine (iv.hd a o).2 (.inr ⟨e, fun q hq hD o' hw => ?_⟩)
  rcases List.mem_append.1 hq with hq | hq
  · have := iv.nB cx hq hw
    rcases cx.dom (iv.le0 cx) e with h1 | h1 <;> omega
  · exact hB (iv.st q hq hD (by rw [hw]; simp))

theorem Hd.same {h0 h : Hp} {rs : List Rc} {D : Nat → Prop} {r : Rc} (hd : Hd h0 rs D h) (hw : r.wr = none) (hu : ∀ q ∈ rs, q.i = r.i → q = r) : Hd h0 rs (fun j => D j ∨ j = r.i) h := by
  intro a o
  rw [hd a o]
  constructor
  · rintro (⟨q, hq, h1, h2⟩ | ⟨h1, h2⟩)
    · exact .inl ⟨q, hq, .inl h1, h2⟩
    · refine .inr ⟨h1, fun q hq hD o' e => ?_⟩
      rcases hD with hD | hD
      · exact h2 q hq hD o' e
      · have := hu q hq hD; subst this; rw [hw] at e; cases e
  · rintro (⟨q, hq, h1, h2⟩ | ⟨h1, h2⟩)
    · rcases h1 with h1 | h1
      · exact .inl ⟨q, hq, h1, h2⟩
      · have := hu q hq h1; subst this; rw [hw] at h2; cases h2
    · exact .inr ⟨h1, fun q hq hD => h2 q hq (.inl hD)⟩
theorem Hd.push {h0 h : Hp} {rs : List Rc} {D : Nat → Prop} {r : Rc} {a : Nat} {o : AObj} (hd : Hd h0 rs D h) (hr : r ∈ rs) (hw : r.wr = some (a, o)) (hu : ∀ q ∈ rs, q.i = r.i → q = r) (hn : ∀ q ∈ rs, D q.i → ∀ o', q.wr ≠ some (a, o')) :
    Hd h0 rs (fun j => D j ∨ j = r.i) (h.upd a o) := by
  intro a1 o1
  unfold Hp.upd
  by_cases ha : a1 = a
  · subst ha
    simp only [if_true]
    constructor
    · intro e; cases e; exact .inl ⟨r, hr, .inr rfl, hw⟩
    · rintro (⟨q, hq, h1, h2⟩ | ⟨h1, h2⟩)
      · rcases h1 with h1 | h1
        · exact absurd h2 (hn q hq h1 o1)
        · have := hu q hq h1; subst this; rw [hw] at h2; cases h2; rfl
      · exact absurd hw (h2 r hr (.inr rfl) o)
  · simp only [if_neg ha]
    rw [hd a1 o1]
    constructor
    · rintro (⟨q, hq, h1, h2⟩ | ⟨h1, h2⟩)
      · exact .inl ⟨q, hq, .inl h1, h2⟩
      · refine .inr ⟨h1, fun q hq hD o' e => ?_⟩
        rcases hD with hD | hD
        · exact h2 q hq hD o' e
        · have := hu q hq hD; subst this; rw [hw] at e; cases e; exact ha rfl
    · rintro (⟨q, hq, h1, h2⟩ | ⟨h1, h2⟩)
      · rcases h1 with h1 | h1
        · exact .inl ⟨q, hq, h1, h2⟩
        · have := hu q hq h1; subst this; rw [hw] at h2; cases h2; exact absurd rfl ha
      · exact .inr ⟨h1, fun q hq hD => h2 q hq (.inl hD)⟩

/-- What an operation leaves that lays and turns nothing. -/
theorem Inv.quiet (cx : Cx P call nt ops effs ρ0 s0 t0 S T cS tS sS tF sF) (iv : Inv P call nt ops effs ρ0 s0 w0 t0 S T cS tS sS sF D A B cA tA sA ρ h w xs) {r : Rc} (hr : r ∈ B ++ T) (hw : r.wr = none) (he : r ∈ B → isEff r.o = false)
    {v' : Value} (hv : VRel ρ r.v v') (ds : List Deferred) :
    Inv P call nt ops effs ρ0 s0 w0 t0 S T cS tS sS sF (fun j => D j ∨ j = r.i) A B cA tA sA ρ h w ((⟨xs, ds⟩ : Act).put r.o.dst v').tmps := by
  have hall : ∀ q ∈ B ++ T, q ∈ S ++ T := fun q hq => by
    rw [iv.sp, List.append_assoc]; exact List.mem_append_right _ hq
  have hu : ∀ q ∈ B ++ T, q.i = r.i → q = r := fun q hq e => cx.uq (hall q hq) (hall r hr) e
  obtain ⟨x1, x2, x3⟩ := iv.tmp' cx (hall r hr) (Ren.le.refl ρ) hv ds
  refine ⟨iv.sp, iv.tr1, iv.tr2, fun q hq => .inl (iv.inA q hq), fun q hq hqe hD => ?_, fun q hq hD hqw => ?_, iv.hd.same hw hu, iv.rel, iv.ext, fun a l e => ?_, x1, x2, x3⟩
  · rcases hD with hD | hD
    · exact iv.effB q hq hqe hD
    · have := hu q (List.mem_append_left _ hq) hD
      subst this
      rw [he hq] at hqe; cases hqe
  · rcases hD with hD | hD
    · exact iv.st q hq hD hqw
    · have := hu q (List.mem_append_right _ hq) hD
      subst this; exact absurd hw hqw
  · rcases iv.nm a l e with h1 | h1 | ⟨q, hq, h1, h2⟩
    · exact .inl h1
    · exact .inr (.inl h1)
    · exact .inr (.inr ⟨q, hq, .inl h1, h2⟩)

/-- What an operation leaves that lays a block. -/
theorem Inv.lay (cx : Cx P call nt ops effs ρ0 s0 t0 S T cS tS sS tF sF) (iv : Inv P call nt ops effs ρ0 s0 w0 t0 S T cS tS sS sF D A B cA tA sA ρ h w xs) {r : Rc} (hr : r ∈ B) (hD : ¬ D r.i) (he : isEff r.o = false) {ob : AObj} (hw : r.wr = some (r.s.n, ob))
    {nv : NewV} (hrv : r.v = nv.at r.s.n) {v' : Value} {w' : World} {res : Result Next} (hres : res = .ok (.value v') w') (hp : POk P ρ w (.new ob nv) res) (ds : List Deferred) :
    ∃ ρ' h', Inv P call nt ops effs ρ0 s0 w0 t0 S T cS tS sS sF (fun j => D j ∨ j = r.i) A B cA tA sA ρ' h' w' ((⟨xs, ds⟩ : Act).put r.o.dst v').tmps := by
  obtain ⟨v2, w2, o2, l, e1, g1, g2, g3, g4, g5, g6, g7⟩ := hp
  rw [hres] at e1; cases e1
  have hall : ∀ q ∈ B ++ T, q ∈ S ++ T := fun q hq => by
    rw [iv.sp, List.append_assoc]; exact List.mem_append_right _ hq
  have hu : ∀ q ∈ B ++ T, q.i = r.i → q = r := fun q hq e => cx.uq (hall q hq) (hall r (List.mem_append_left _ hr)) e
  have hBne : B ≠ [] := fun e => by rw [e] at hr; cases hr
  have hnB := iv.nB cx hr hw
  have hpair := iv.tr2.pair cx.hc
  have hdist : ∀ q ∈ B, q ≠ r → ∀ o', q.wr ≠ some (r.s.n, o') := by
    intro q hq hne o' hqw
    obtain ⟨X, Y, hXY⟩ := List.append_of_mem hr
    rw [hXY] at hpair hq
    obtain ⟨_, p2, p3⟩ := List.pairwise_append.1 hpair
    rcases List.mem_append.1 hq with hq | hq
    · exact p3 q hq r List.mem_cons_self _ o' ob hqw hw
    · rcases List.mem_cons.1 hq with rfl | hq
      · exact hne rfl
      · exact (List.pairwise_cons.1 p2).1 q hq _ ob o' hw hqw
  have hle0 := (iv.le0 cx).n
  have hρ : ρ r.s.n = none := by
    cases hq : ρ r.s.n with
    | none => rfl
    | some lc =>
      rcases iv.nm _ _ hq with h1 | h1 | ⟨q, hqB, h1, o', h2⟩
      · have := cx.fresh r.s.n (by omega) hnB.2.1; rw [this] at h1; cases h1
      · omega
      · exact absurd h2 (hdist q hqB (fun e => hD (e ▸ h1)) o')
  obtain ⟨y1, y2⟩ := ext_new (w' := w') iv.rel hρ g1 g2 g3 g4 g5 g6
  have hv : VRel (ρ.upd r.s.n l) r.v v' := by rw [hrv]; exact g7 _ _ (Ren.upd_same _ _ _)
  obtain ⟨x1, x2, x3⟩ := iv.tmp' cx (hall r (List.mem_append_left _ hr)) y1.le hv ds
  refine ⟨_, _, iv.sp, iv.tr1, iv.tr2, fun q hq => .inl (iv.inA q hq), fun q hq hqe hD => ?_, fun q hq hDq hqw => ?_, iv.hd.push (List.mem_append_left _ hr) hw hu ?_, y2, iv.ext.trans' y1 (by omega) (by omega), fun a lc e => ?_, x1, x2, x3⟩
  · rcases hD with hD | hD
    · exact iv.effB q hq hqe hD
    · have := hu q (List.mem_append_left _ hq) hD
      subst this
      rw [he] at hqe; cases hqe
  · rcases hDq with hDq | hDq
    · exact iv.st q hq hDq hqw
    · exact absurd hDq.symm (cx.ST (by rw [iv.sp]; exact List.mem_append_right _ hr) hq)
  · intro q hq hDq o'
    rcases List.mem_append.1 hq with hq | hq
    · exact hdist q hq (fun e => hD (e ▸ hDq)) o'
    · intro hqw; exact hBne (iv.st q hq hDq (by rw [hqw]; simp))
  · rcases y1.new a lc e with h1 | h1
    · rcases iv.nm a lc h1 with h1 | h1 | ⟨q, hq, h1, h2⟩
      · exact .inl h1
      · exact .inr (.inl h1)
      · exact .inr (.inr ⟨q, hq, .inl h1, h2⟩)
    · have : a = r.s.n := by omega
      subst this
      exact .inr (.inr ⟨r, hr, .inr rfl, ob, hw⟩)

/-- What a store of the tail leaves. -/
theorem Inv.store (cx : Cx P call nt ops effs ρ0 s0 t0 S T cS tS sS tF sF) (iv : Inv P call nt ops effs ρ0 s0 w0 t0 S T cS tS sS sF D A B cA tA sA ρ h w xs) {r : Rc} (hr : r ∈ T) (hD : ¬ D r.i) (hB : B = []) {a : Nat} {ob : AObj} (hw : r.wr = some (a, ob))
    {v' : Value} (hv : VRel ρ r.v v') {w' : World} (hx : Ext ρ h w s0.n sF.n ρ (h.upd a ob) w') (hR' : Rel P ρ (h.upd a ob) w') (ds : List Deferred) :
    ∃ h', Inv P call nt ops effs ρ0 s0 w0 t0 S T cS tS sS sF (fun j => D j ∨ j = r.i) A B cA tA sA ρ h' w' ((⟨xs, ds⟩ : Act).put r.o.dst v').tmps := by
  have hall : ∀ q ∈ B ++ T, q ∈ S ++ T := fun q hq => by
    rw [iv.sp, List.append_assoc]; exact List.mem_append_right _ hq
  have hu : ∀ q ∈ B ++ T, q.i = r.i → q = r := fun q hq e => cx.uq (hall q hq) (hall r (List.mem_append_right _ hr)) e
  obtain ⟨x1, x2, x3⟩ := iv.tmp' cx (hall r (List.mem_append_right _ hr)) (Ren.le.refl ρ) hv ds
  have hdist : ∀ q ∈ T, q ≠ r → ∀ o', q.wr ≠ some (a, o') := by
    intro q hq hne o' hqw
    have hpair := cx.trT.pair.1
    obtain ⟨X, Y, hXY⟩ := List.append_of_mem hr
    rw [hXY] at hpair hq
    obtain ⟨_, p2, p3⟩ := List.pairwise_append.1 hpair
    rcases List.mem_append.1 hq with hq | hq
    · exact p3 q hq r List.mem_cons_self _ o' ob hqw hw
    · rcases List.mem_cons.1 hq with rfl | hq
      · exact hne rfl
      · exact (List.pairwise_cons.1 p2).1 q hq _ ob o' hw hqw
  refine ⟨h.upd a ob, iv.sp, iv.tr1, iv.tr2, fun q hq => .inl (iv.inA q hq), fun q hq => (by rw [hB] at hq; cases hq), fun q hq hDq hqw => hB, iv.hd.push (List.mem_append_right _ hr) hw hu ?_, hR', iv.ext.trans' hx (Nat.le_refl _) (Nat.le_refl _), fun a lc e => ?_, x1, x2, x3⟩
  · intro q hq hDq o'
    rcases List.mem_append.1 hq with hq | hq
    · rw [hB] at hq; cases hq
    · exact hdist q hq (fun e => hD (e ▸ hDq)) o'
  · rcases iv.nm a lc e with h1 | h1 | ⟨q, hq, h1, h2⟩
    · exact .inl h1
    · exact .inr (.inl h1)
    · exact .inr (.inr ⟨q, hq, .inl h1, h2⟩)

/-- What stands ahead of an operation that has all before it behind it. -/
theorem Inv.ahead (cx : Cx P call nt ops effs ρ0 s0 t0 S T cS tS sS tF sF) (iv : Inv P call nt ops effs ρ0 s0 w0 t0 S T cS tS sS sF D A B cA tA sA ρ h w xs) {B1 B2 : List Rc} {r : Rc} {c1 : List Nat} (hB : B = B1 ++ r :: B2) (hB1 : ∀ q ∈ B1, D q.i)
    (htr : Tr P call nt ops effs cA tA sA B1 c1 r.t r.s) : Hd (rdS sA) B1 (fun _ => True) (rdS r.s) ∧ ∀ a o, rdS r.s a = some o → h a = some o := by
  have hl := htr.light (fun q hq => by
    cases he : isEff q.o with
    | false => rfl
    | true => exact absurd (hB1 q hq) (iv.effB q (by rw [hB]; exact List.mem_append_left _ hq) he))
  have hhd := hl.hd (htr.pair cx.hc)
  refine ⟨hhd, fun a o e => ?_⟩
  have hBne : B ≠ [] := by rw [hB]; simp
  rcases (hhd a o).1 e with ⟨q, hq, _, hqw⟩ | ⟨e, _⟩
  · exact (iv.hd a o).2 (.inl ⟨q, by rw [hB]; simp [hq], hB1 q hq, hqw⟩)
  · exact iv.hA cx hBne e

/-- What an operation leaves that has all before it behind it. -/
theorem Inv.heavy (cx : Cx P call nt ops effs ρ0 s0 t0 S T cS tS sS tF sF) (iv : Inv P call nt ops effs ρ0 s0 w0 t0 S T cS tS sS sF D A B cA tA sA ρ h w xs) {B1 B2 : List Rc} {r : Rc} {c1 c2 : List Nat} (hB : B = B1 ++ r :: B2) (hB1 : ∀ q ∈ B1, D q.i) (hD : ¬ D r.i)
    (hw : r.wr = none) (htr : Tr P call nt ops effs cA tA sA B1 c1 r.t r.s) (htr1 : Tr P call nt ops effs c1 r.t r.s [r] c2 r.t' r.s') (htr2 : Tr P call nt ops effs c2 r.t' r.s' B2 cS tS sS)
    {ρ' : Ren} {w' : World} {v' : Value} (hx : Ext ρ (rdS r.s) w r.s.n r.s'.n ρ' (rdS r.s') w') (hR' : Rel P ρ' (rdS r.s') w') (hv : VRel ρ' r.v v') (ds : List Deferred) :
    ∃ A' B' cA' tA' sA' ρ' h', Inv P call nt ops effs ρ0 s0 w0 t0 S T cS tS sS sF (fun j => D j ∨ j = r.i) A' B' cA' tA' sA' ρ' h' w' ((⟨xs, ds⟩ : Act).put r.o.dst v').tmps := by
  obtain ⟨hhd, hsub⟩ := iv.ahead cx hB hB1 htr
  have hBne : B ≠ [] := by rw [hB]; simp
  have hrB : r ∈ B := by rw [hB]; simp
  have hall : ∀ q ∈ B ++ T, q ∈ S ++ T := fun q hq => by
    rw [iv.sp, List.append_assoc]; exact List.mem_append_right _ hq
  have hu : ∀ q ∈ B ++ T, q.i = r.i → q = r := fun q hq e => cx.uq (hall q hq) (hall r (List.mem_append_left _ hrB)) e
  obtain ⟨y1, y2⟩ := ext_whole iv.rel hsub hx hR'
  obtain ⟨x1, x2, x3⟩ := iv.tmp' cx (hall r (List.mem_append_left _ hrB)) y1.le hv ds
  have l01 := iv.le0 cx
  have l1r := htr.le cx.hc
  have lrr := htr1.le cx.hc
  have lr2 := htr2.le cx.hc
  have lSF := cx.sSF
  have hn1 := l01.n
  have hn2 := l1r.n
  have hn3 := lrr.n
  have hn4 := lr2.n
  have hn5 := lSF.n
  have hT : ∀ q ∈ T, D q.i → q.wr = none := fun q hq hDq => by
    cases hqw : q.wr with
    | none => rfl
    | some p => exact absurd (iv.st q hq hDq (by rw [hqw]; simp)) hBne
  have hB2 : ∀ q ∈ B2, ∀ a o, q.wr = some (a, o) → r.s'.n ≤ a ∧ a < sF.n := by
    intro q hq a o hqw
    obtain ⟨p1, p2, p3⟩ := htr2.names cx.hc q hq
    obtain ⟨e, p4⟩ := p3 a o hqw
    omega
  have hB1n : ∀ q ∈ B1, ∀ a o, q.wr = some (a, o) → a < r.s.n := by
    intro q hq a o hqw
    obtain ⟨p1, p2, p3⟩ := htr.names cx.hc q hq
    obtain ⟨e, p4⟩ := p3 a o hqw
    omega
  have hne2 : ∀ q ∈ B2, q ≠ r := by
    intro q hq e
    have hpw := cx.pw
    rw [iv.sp, hB] at hpw
    have p1 := (List.pairwise_append.1 (List.pairwise_append.1 (List.pairwise_append.1 hpw).1).2.1).2.1
    exact (List.pairwise_cons.1 p1).1 q hq (by rw [e])
  have hT2 : ∀ q ∈ B2 ++ T, q ∈ B ++ T := fun q hq => by
    rcases List.mem_append.1 hq with hq | hq
    · rw [hB]; simp [hq]
    · exact List.mem_append_right _ hq
  have hnotr : ∀ q ∈ B2 ++ T, q.i ≠ r.i := by
    intro q hq e
    rcases List.mem_append.1 hq with hq' | hq'
    · exact hne2 q hq' (hu q (hT2 q hq) e)
    · exact cx.ST (by rw [iv.sp]; exact List.mem_append_right _ hrB) hq' e.symm
  refine ⟨A ++ (B1 ++ [r]), B2, c2, r.t', r.s', ρ', _, ?_, iv.tr1.append (htr.append htr1), htr2, ?_, ?_, ?_, ?_, y2, iv.ext.trans' y1 (by omega) (by omega), ?_, x1, x2, x3⟩
  · rw [iv.sp, hB]; simp
  · intro q hq
    rcases List.mem_append.1 hq with hq | hq
    · exact .inl (iv.inA q hq)
    · rcases List.mem_append.1 hq with hq | hq
      · exact .inl (hB1 q hq)
      · simp at hq; subst hq; exact .inr rfl
  · intro q hq hqe hDq
    rcases hDq with hDq | hDq
    · exact iv.effB q (by rw [hB]; simp [hq]) hqe hDq
    · exact hnotr q (List.mem_append_left _ hq) hDq
  · intro q hq hDq hqw
    rcases hDq with hDq | hDq
    · exact absurd (hT q hq hDq) hqw
    · exact absurd hDq (hnotr q (List.mem_append_right _ hq))
  · intro a o
    have hdomr : ∀ o, rdS r.s a = some o → a < r.s.n ∨ sF.n ≤ a := fun o e => cx.dom (l01.trans l1r) e
    have hdomr' : ∀ o, rdS r.s' a = some o → a < r.s'.n ∨ sF.n ≤ a := fun o e => cx.dom ((l01.trans l1r).trans lrr) e
    simp only
    constructor
    · intro e
      split at e
      · rename_i o' ho'
        cases e
        refine .inr ⟨ho', fun q hq hDq o' hqw => ?_⟩
        have hDq : D q.i := hDq.resolve_right (hnotr q hq)
        rcases List.mem_append.1 hq with hq | hq
        · have := hB2 q hq a o' hqw
          rcases hdomr' _ ho' with h1 | h1 <;> omega
        · rw [hT q hq hDq] at hqw; cases hqw
      · split at e
        · cases e
        · rename_i hn' hn
          rcases (iv.hd a o).1 e with ⟨q, hq, hDq, hqw⟩ | ⟨e', hno⟩
          · rcases List.mem_append.1 hq with hq | hq
            · rw [hB] at hq
              rcases List.mem_append.1 hq with hq | hq
              · rw [(hhd a o).2 (.inl ⟨q, hq, trivial, hqw⟩)] at hn; cases hn
              · rcases List.mem_cons.1 hq with rfl | hq
                · rw [hw] at hqw; cases hqw
                · exact .inl ⟨q, List.mem_append_left _ hq, .inl hDq, hqw⟩
            · exact .inl ⟨q, List.mem_append_right _ hq, .inl hDq, hqw⟩
          · have : rdS r.s a = some o := (hhd a o).2 (.inr ⟨e', fun q hq _ o' hqw => hno q (by rw [hB]; simp [hq]) (hB1 q hq) o' hqw⟩)
            rw [this] at hn; cases hn
    · rintro (⟨q, hq, hDq, hqw⟩ | ⟨e, _⟩)
      · have hDq : D q.i := hDq.resolve_right (hnotr q hq)
        rcases List.mem_append.1 hq with hq' | hq'
        · have hb := hB2 q hq' a o hqw
          have h1 : rdS r.s' a = none := by
            cases hx : rdS r.s' a with
            | none => rfl
            | some o' => rcases hdomr' o' hx with h1 | h1 <;> omega
          have h2 : rdS r.s a = none := by
            cases hx : rdS r.s a with
            | none => rfl
            | some o' => rcases hdomr o' hx with h1 | h1 <;> omega
          rw [h1, h2]
          simp only
          exact (iv.hd a o).2 (.inl ⟨q, hT2 q hq, hDq, hqw⟩)
        · rw [hT q hq' hDq] at hqw; cases hqw
      · rw [e]
  · intro a lc e
    rcases y1.new a lc e with h1 | h1
    · rcases iv.nm a lc h1 with h1 | h1 | ⟨q, hq, h1, o', h2⟩
      · exact .inl h1
      · exact .inr (.inl (by omega))
      · rw [hB] at hq
        rcases List.mem_append.1 hq with hq | hq
        · exact .inr (.inl (by have := hB1n q hq a o' h2; omega))
        · rcases List.mem_cons.1 hq with rfl | hq
          · rw [hw] at h2; cases h2
          · exact .inr (.inr ⟨q, hq, .inl h1, o', h2⟩)
    · exact .inr (.inl h1.2)
end
end Go.Ev

/- Regions that draw their order are sound. -/
namespace Go.Ev
section
variable {P : Program} {call : CallF} {nt : Nat} {ops : Array Oper} {effs : List Nat} {ρ0 : Ren} {s0 : St} {w0 : World} {t0 : Tri Value} {S T : List Rc} {cS : List Nat} {tS : Tri Value} {sS : St} {tF : Tri Value} {sF : St}
variable {D : Nat → Prop} {A B : List Rc} {cA : List Nat} {tA : Tri Value} {sA : St} {ρ : Ren} {h : Hp} {w : World} {xs : Array Value}

theorem wpIn_value {ρ : Ren} {ro : Option Nat} {F : Fence} (hf : FenceOf ρ ro F) {o : Oper} (hnd : ∀ c, o.op ≠ .defer c) {a : Act} {w w' : World} {v' : Value} (hrun : (execOp a.eval o).run P w = .ok (.value v') w') {K : Act → World → Prop} {Q : Exit → Act → World → Prop}
    (hK : K (a.put o.dst v') w') : o.wpIn F 0 P a w K Q := by
  refine ⟨fun f _ => hf.fn f, ?_⟩
  rw [Oper.semAt_plain F _ _ hnd, hrun, Oper.uponIn_value]
  exact hK
theorem wpIn_skip' {ρ : Ren} {ro : Option Nat} {F : Fence} (hf : FenceOf ρ ro F) {o : Oper} (hnd : ∀ c, o.op ≠ .defer c) {a : Act} {w w' : World} (hrun : (execOp a.eval o).run P w = .ok .skip w') {K : Act → World → Prop} {Q : Exit → Act → World → Prop}
    (hK : K (a.put o.dst undef) w') : o.wpIn F 0 P a w K Q := by
  refine ⟨fun f _ => hf.fn f, ?_⟩
  rw [Oper.semAt_plain F _ _ hnd, hrun, Oper.uponIn_skip]
  exact hK

/-- One operation that may come now. -/
theorem Inv.go (cx : Cx P call nt ops effs ρ0 s0 t0 S T cS tS sS tF sF) (iv : Inv P call nt ops effs ρ0 s0 w0 t0 S T cS tS sS sF D A B cA tA sA ρ h w xs) (ht0 : ∀ i, nt ≤ i → t0.get i = none)
    {ro : Option Nat} {F : Fence} (hf : FenceOf ρ0 ro F) {r : Rc} (hr : r ∈ S ++ T) (hD : ¬ D r.i) (ha : ∀ m, (ancs ops.toList [])[r.i]? = some m → ∀ j, bit m j = true → D j)
    (hsh : ∀ q ∈ S ++ T, D q.i → ∀ m, (ancs ops.toList [])[q.i]? = some m → ∀ j, bit m j = true → D j) (ds : List Deferred) {K : Act → World → Prop} {Q : Exit → Act → World → Prop}
    (hK : ∀ a' w', a'.defers = ds → (∃ A' B' cA' tA' sA' ρ' h', Inv P call nt ops effs ρ0 s0 w0 t0 S T cS tS sS sF (fun j => D j ∨ j = r.i) A' B' cA' tA' sA' ρ' h' w' a'.tmps) → K a' w') :
    wpOpIn F 0 P ops Q r.i K ⟨xs, ds⟩ w := by
  have hat := cx.at_ r hr
  have hfρ := hf.mono iv.ext.le
  have l01 := iv.le0 cx
  have skip : ∀ {X Y : List Rc}, S ++ T = X ++ r :: Y → wantF ops.toList r.t r.o = false → K ((⟨xs, ds⟩ : Act).put r.o.dst undef) w → wpOpIn F 0 P ops Q r.i K ⟨xs, ds⟩ w := by
    intro X Y hs hw hk
    unfold wpOpIn
    simp only [hat]
    rw [iv.want cx hs ha, hw]
    simp only [Bool.false_eq_true, if_false]
    exact ⟨fun f _ => hfρ.fn f, hk⟩
  have ent : ∀ {X Y : List Rc}, S ++ T = X ++ r :: Y → wantF ops.toList r.t r.o = true → r.o.wpIn F 0 P ⟨xs, ds⟩ w K Q → wpOpIn F 0 P ops Q r.i K ⟨xs, ds⟩ w := by
    intro X Y hs hw hk
    unfold wpOpIn
    simp only [hat]
    rw [iv.want cx hs ha, hw]
    simpa using hk
  have hcase : r ∈ B ∨ r ∈ T := by
    rcases List.mem_append.1 hr with h | h
    · rw [iv.sp] at h
      rcases List.mem_append.1 h with h | h
      · exact absurd (iv.inA r h) hD
      · exact .inl h
    · exact .inr h
  rcases hcase with hrB | hrT
  · obtain ⟨B1, B2, hB⟩ := List.append_of_mem hrB
    have hBne : B ≠ [] := by rw [hB]; simp
    have hs : S ++ T = (A ++ B1) ++ r :: (B2 ++ T) := by rw [iv.sp, hB]; simp
    have hev := iv.opv cx ht0 hs hD ha hsh ds
    have htr2 := iv.tr2
    rw [hB] at htr2
    obtain ⟨c1, t1, s1, htr, hrest⟩ := htr2.split
    cases hrest with
    | cons _ m _ _ _ _ _ h1 h2 h3 h4 h5 =>
      have htr1 : Tr P call nt ops effs c1 r.t r.s [r] (clkE r.o c1 r.s'.n) r.t' r.s' := .cons r m c1 [] _ _ _ h1 h2 h3 h4 (.nil _ _ _)
      have l1r := htr.le cx.hc
      have lr2 := h5.le cx.hc
      have heff : isEff r.o = true → ∀ q ∈ B1, D q.i := by
        intro he q hq
        have := cx.effS (A ++ B1) r B2 (by rw [iv.sp, hB]; simp) he m h2 q (List.mem_append_right _ hq)
        exact ha m h2 _ this
      cases he : isEff r.o with
      | true =>
        have hB1 := heff he
        have hwr : r.wr = none := by
          rcases h4 with ⟨_, _, _, e⟩ | ⟨_, _, _, e⟩ | ⟨_, e, _⟩
          · exact e
          · exact e
          · rw [he] at e; cases e
        obtain ⟨hhd, hsub⟩ := iv.ahead cx hB hB1 htr
        have hRs : Rel P ρ (rdS r.s) w := iv.rel.sub hsub
        rcases h4 with ⟨hw, hv, hs', _⟩ | ⟨hw, _, hef, _⟩ | ⟨_, e, _⟩
        · refine skip hs hw (hK _ _ (put_defers _ _ _) ?_)
          have hx : Ext ρ (rdS r.s) w r.s.n r.s'.n ρ (rdS r.s') w := by rw [hs']; exact Ext.refl _ _ _ _
          exact iv.heavy cx hB hB1 hD hwr htr htr1 h5 hx (by rw [hs']; exact hRs) (by rw [hv]; exact undef_rel) ds
        · obtain ⟨q1, q2⟩ := effOp_sound cx.hc hef
          have hfr : Fresh ρ r.s.n r.s'.n := by
            intro a ha1 ha2
            cases hq : ρ a with
            | none => rfl
            | some lc =>
              have hn0 := l01.n
              have hn1 := l1r.n
              have hn2 := lr2.n
              have hn3 := cx.sSF.n
              rcases iv.nm a lc hq with g | g | ⟨q, hqB, g1, o', g2⟩
              · have := cx.fresh a (by omega) (by omega); rw [this] at g; cases g
              · omega
              · rw [hB] at hqB
                rcases List.mem_append.1 hqB with hqB | hqB
                · obtain ⟨p1, p2, p3⟩ := htr.names cx.hc q hqB
                  have := p3 a o' g2; omega
                · rcases List.mem_cons.1 hqB with rfl | hqB
                  · exact absurd g1 hD
                  · obtain ⟨p1, p2, p3⟩ := h5.names cx.hc q hqB
                    have := p3 a o' g2; omega
          have hp := q2 ρ w (⟨xs, ds⟩ : Act).eval hRs hfr hev
          refine ent hs hw (step_wp hfρ (isEff_nodefer he) hp ?_ ?_)
          · intro v' w' ρ' g1 g2 v gv g3
            cases gv
            exact hK _ _ (put_defers _ _ _) (iv.heavy cx hB hB1 hD hwr htr htr1 h5 g1 g2 g3 ds)
          · intro v' w' ρ' _ _ v gv; cases gv
        · rw [he] at e; cases e
      | false =>
        have hrBT : r ∈ B ++ T := List.mem_append_left _ hrB
        rcases h4 with ⟨hw, hv, hs', hwr⟩ | ⟨_, e, _⟩ | ⟨hw, _, lim, po, hlim, hpo, hpv⟩
        · exact skip hs hw (hK _ _ (put_defers _ _ _) ⟨A, B, cA, tA, sA, ρ, h, iv.quiet cx hrBT hwr (fun _ => he) (by rw [hv]; exact undef_rel) ds⟩)
        · rw [he] at e; cases e
        · -- what it reads stands
          have hrd : ∀ a o, rdL r.s lim a = some o → h a = some o := by
            intro a o e
            unfold rdL at e
            split at e
            · rename_i k o' heq
              split at e
              · rename_i hk
                cases e
                have hk : k < lim := Nat.le_of_ble_eq_true hk
                obtain ⟨k1, k2, k3⟩ := iv.tr1.clk cx.hc
                obtain ⟨k4, k5, k6⟩ := htr.clk cx.hc
                have hcnt : cntE m effs ≤ (effsOf ops.toList (A.map (·.i))).length := by
                  rw [cx.effs_eq, iv.sp, List.map_append, effsOf_append, cntE_append, cntE_zero m (effsOf ops.toList (B.map (·.i))), Nat.add_zero]
                  · exact cntE_le _ _
                  · intro e hem
                    obtain ⟨g1, o1, g2, g3⟩ := (effsOf_mem _ e).1 hem
                    obtain ⟨q, hq, rfl⟩ := List.mem_map.1 g1
                    have hqm : q ∈ S ++ T := by rw [iv.sp]; exact List.mem_append_left _ (List.mem_append_right _ hq)
                    have := cx.at_ q hqm
                    rw [this] at g2; cases g2
                    cases hb : bit m q.i with
                    | false => rfl
                    | true => exact absurd (ha m h2 _ hb) (iv.effB q hq g3)
                have hlt : cntE m effs < cA.length := by rw [k1]; simp; omega
                rw [nth_eq, k5 _ hlt] at hlim
                have hmem := List.mem_of_getElem? hlim
                have hlimle := k3 (by simp) lim hmem
                have h6 := l1r.old a k o heq (by omega)
                exact iv.hA cx hBne (by unfold rdS; rw [h6])
              · cases e
            · cases e
          have hp := pureOp_sound (ev' := (⟨xs, ds⟩ : Act).eval) iv.rel hrd hpo hev
          cases po with
          | val v =>
            obtain ⟨e1, e2, e3⟩ := hpv
            obtain ⟨v', hrun, hv'⟩ := hp
            exact ent hs hw (wpIn_value hfρ (pure_nodefer hpo) hrun (hK _ _ (put_defers _ _ _) ⟨A, B, cA, tA, sA, ρ, h, iv.quiet cx hrBT e3 (fun _ => he) (by rw [e1]; exact hv') ds⟩))
          | new ob nv =>
            obtain ⟨e1, e2, e3⟩ := hpv
            have hp2 := hp
            obtain ⟨v', w', o2, l, hrun, _⟩ := hp2
            obtain ⟨ρ', h', iv'⟩ := iv.lay cx hrB hD he e3 e1 hrun hp ds
            exact ent hs hw (wpIn_value hfρ (pure_nodefer hpo) hrun (hK _ _ (put_defers _ _ _) ⟨A, B, cA, tA, sA, ρ', h', iv'⟩))
  · obtain ⟨T1, T2, hT⟩ := List.append_of_mem hrT
    have hs : S ++ T = (S ++ T1) ++ r :: T2 := by rw [hT]; simp
    have hev := iv.opv cx ht0 hs hD ha hsh ds
    have htr := cx.trT
    rw [hT] at htr
    obtain ⟨hit1, t1, s1, htr1, hrest, hhit⟩ := htr.split
    have hrBT : r ∈ B ++ T := List.mem_append_right _ hrT
    have hnB : r ∈ B → isEff r.o = false := fun hB => absurd rfl (cx.ST (by rw [iv.sp]; exact List.mem_append_right _ hB) hrT)
    cases hrest with
    | cons _ _ hit' _ _ _ h1 h3 h4 h5 =>
      rcases h4 with ⟨hw, hv, hs', hwr, _⟩ | ⟨hw, ty, ax, x, al, v, n, cs, mm, e, opn, fz, hop, hax, hx, hsz, hlen, hmem, hsp, hrow, hle, hone, hs', hv, hwr, _⟩ | ⟨hw, he, hpo, hs', hwr, _⟩
      · exact skip hs hw (hK _ _ (put_defers _ _ _) ⟨A, B, cA, tA, sA, ρ, h, iv.quiet cx hrBT hwr hnB (by rw [hv]; exact undef_rel) ds⟩)
      · have hst : isStore r.o = true := by simp [isStore, hop]
        obtain ⟨m, hm, _⟩ := cx.grd r.i r.o hat
        have hBnil : B = [] := by
          rcases cx.ends with hE | hE
          · rw [hE] at hrT; cases hrT
          · rcases List.eq_nil_or_concat B with hb | ⟨B', q, hb⟩
            · exact hb
            · exfalso
              rw [iv.sp, hb, List.map_append, List.concat_eq_append, List.map_append, List.map_singleton, ← List.append_assoc] at hE
              obtain ⟨o', g1, g2⟩ := endsEff_last _ _ hE
              have hqB : q ∈ B := by rw [hb]; simp
              have hqS : q ∈ S := by rw [iv.sp]; exact List.mem_append_right _ hqB
              have := cx.at_ q (List.mem_append_left _ hqS)
              rw [this] at g1; cases g1
              have hqe : q.i ∈ effs := by
                rw [cx.effs_eq]
                exact (effsOf_mem _ _).2 ⟨List.mem_map_of_mem hqS, _, this, g2⟩
              exact iv.effB q hqB g2 (ha m hm _ (cx.stT r hrT hst m hm _ hqe))
        have hsA : sA = sS := by
          have := iv.tr2
          rw [hBnil] at this
          cases this; rfl
        have hnoT1 : ∀ q ∈ T1, ∀ o', q.wr ≠ some (al.block, o') := by
          intro q hq o' hqw
          have hpair := cx.trT.pair.1
          rw [hT] at hpair
          exact (List.pairwise_append.1 hpair).2.2 q hq r List.mem_cons_self _ _ _ hqw hwr
        have hnoT2 : ∀ q ∈ T2, ∀ o', q.wr ≠ some (al.block, o') := by
          intro q hq o' hqw
          have hpair := cx.trT.pair.1
          rw [hT] at hpair
          exact (List.pairwise_cons.1 (List.pairwise_append.1 hpair).2.1).1 q hq _ _ _ hwr hqw
        have hhd1 := htr1.light.hd htr1.pair.1
        have hrow0 : rdS sS al.block = some (.row cs mm e opn fz) := by
          rcases (hhd1 _ _).1 hrow with ⟨q, hq, _, hqw⟩ | ⟨h0, _⟩
          · exact absurd hqw (hnoT1 q hq _)
          · exact h0
        have hrowh : h al.block = some (.row cs mm e opn fz) := by
          refine (iv.hd _ _).2 (.inr ⟨by rw [hsA]; exact hrow0, fun q hq hDq o' hqw => ?_⟩)
          rcases List.mem_append.1 hq with hq | hq
          · rw [hBnil] at hq; cases hq
          · rw [hT] at hq
            rcases List.mem_append.1 hq with hq | hq
            · exact hnoT1 q hq o' hqw
            · rcases List.mem_cons.1 hq with rfl | hq
              · exact hD hDq
              · exact hnoT2 q hq o' hqw
        have ha' := hev ax (by simp [hop, Op.operands]) _ hax
        have hx' := hev x (by simp [hop, Op.operands]) _ hx
        obtain ⟨ab, ao, asp⟩ := al
        simp only at hsp; subst hsp
        obtain ⟨lc, e1, e2⟩ : ∃ lc, ρ ab = some lc ∧ (⟨xs, ds⟩ : Act).eval ax = .pointer (some ⟨lc.b, lc.o + ao, none⟩) := by
          generalize (⟨xs, ds⟩ : Act).eval ax = a' at ha'
          cases ha' with
          | ptr _ _ l e => exact ⟨l, e, rfl⟩
        have hcl := cellsV_rel hx'
        obtain ⟨w', r1, r2, r3⟩ := storeH_sound iv.rel hrowh hle hone e1 hcl
        have hsz' : ((⟨xs, ds⟩ : Act).eval x).cells.size = n := by rw [← hlen, ← hcl.length]; simp
        have hrun : (execOp (⟨xs, ds⟩ : Act).eval r.o).run P w = .ok .skip w' := by
          simp [execOp, hop, Instr.storeAt, Instr.sureAddr, e2, storeVar, run_size hsz, hsz', r1]
        obtain ⟨h', iv'⟩ := iv.store cx hrT hD hBnil hwr (v' := undef) (by rw [hv]; exact undef_rel) (r2 _ _) r3 ds
        exact ent hs hw (wpIn_skip' hfρ (by intro c hc; rw [hop] at hc; cases hc) hrun (hK _ _ (put_defers _ _ _) ⟨A, B, cA, tA, sA, ρ, h', iv'⟩))
      · have hp := pureOp_sound (ev' := (⟨xs, ds⟩ : Act).eval) iv.rel (fun _ _ e => by cases e) hpo hev
        obtain ⟨v', hrun, hv'⟩ := hp
        exact ent hs hw (wpIn_value hfρ (pure_nodefer hpo) hrun (hK _ _ (put_defers _ _ _) ⟨A, B, cA, tA, sA, ρ, h, iv.quiet cx hrBT hwr hnB hv' ds⟩))
end
end Go.Ev

/- Regions that draw their order are sound. -/
namespace Go.Ev
section
variable {P : Program} {call : CallF} {nt : Nat} {ops : Array Oper} {effs : List Nat} {ρ0 : Ren} {s0 : St} {w0 : World} {t0 : Tri Value} {S T : List Rc} {cS : List Nat} {tS : Tri Value} {sS : St} {tF : Tri Value} {sF : St}

/-- When all has been. -/
theorem Inv.fin (cx : Cx P call nt ops effs ρ0 s0 t0 S T cS tS sS tF sF) (ht0 : ∀ i, nt ≤ i → t0.get i = none) {D : Nat → Prop} {A B : List Rc} {cA : List Nat} {tA : Tri Value} {sA : St} {ρ : Ren} {h : Hp} {w : World} {xs : Array Value}
    (iv : Inv P call nt ops effs ρ0 s0 w0 t0 S T cS tS sS sF D A B cA tA sA ρ h w xs) (hD : ∀ i, i < ops.size → D i) : Ext ρ0 (rdS s0) w0 s0.n sF.n ρ (rdS sF) w ∧ Rel P ρ (rdS sF) w ∧ TRel ρ tF nt xs := by
  have hall : ∀ q ∈ S ++ T, D q.i := fun q hq => hD q.i (by
    have := cx.at_ q hq
    exact (Array.getElem?_eq_some_iff.1 this).1)
  have hSS : ∀ q ∈ B, q ∈ S ++ T := fun q hq => by rw [iv.sp]; exact List.mem_append_left _ (List.mem_append_right _ hq)
  have hBne : ∀ q ∈ B, isEff q.o = false := fun q hq => by
    cases he : isEff q.o with
    | false => rfl
    | true => exact absurd (hall q (hSS q hq)) (iv.effB q hq he)
  have hh : h = rdS sF := by
    have hBS := (iv.tr2.light hBne).hd (iv.tr2.pair cx.hc)
    have hTF := cx.trT.light.hd cx.trT.pair.1
    have hcase : T = [] ∨ B = [] := by
      rcases cx.ends with h | hE
      · exact .inl h
      · right
        rcases List.eq_nil_or_concat B with hb | ⟨B', q, hb⟩
        · exact hb
        · exfalso
          rw [iv.sp, hb, List.map_append, List.concat_eq_append, List.map_append, List.map_singleton, ← List.append_assoc] at hE
          obtain ⟨o', g1, g2⟩ := endsEff_last _ _ hE
          have hqB : q ∈ B := by rw [hb]; simp
          have := cx.at_ q (hSS q hqB)
          rw [this] at g1; cases g1
          rw [hBne q hqB] at g2; cases g2
    funext a
    have key : ∀ o, h a = some o ↔ rdS sF a = some o := by
      intro o
      rw [iv.hd a o]
      rcases hcase with hT | hB
      · have hs : sF = sS := by have := cx.trT; rw [hT] at this; cases this; rfl
        rw [hs, hBS a o, hT, List.append_nil]
        constructor
        · rintro (⟨q, hq, _, h2⟩ | ⟨h1, h2⟩)
          · exact .inl ⟨q, hq, trivial, h2⟩
          · exact .inr ⟨h1, fun q hq _ => h2 q hq (hall q (hSS q hq))⟩
        · rintro (⟨q, hq, _, h2⟩ | ⟨h1, h2⟩)
          · exact .inl ⟨q, hq, hall q (hSS q hq), h2⟩
          · exact .inr ⟨h1, fun q hq _ => h2 q hq trivial⟩
      · have hs : sA = sS := by have := iv.tr2; rw [hB] at this; cases this; rfl
        rw [hTF a o, hB, hs, List.nil_append]
        constructor
        · rintro (⟨q, hq, _, h2⟩ | ⟨h1, h2⟩)
          · exact .inl ⟨q, hq, trivial, h2⟩
          · exact .inr ⟨h1, fun q hq _ => h2 q hq (hall q (List.mem_append_right _ hq))⟩
        · rintro (⟨q, hq, _, h2⟩ | ⟨h1, h2⟩)
          · exact .inl ⟨q, hq, hall q (List.mem_append_right _ hq), h2⟩
          · exact .inr ⟨h1, fun q hq _ => h2 q hq trivial⟩
    cases hx : h a with
    | none =>
      cases hy : rdS sF a with
      | none => rfl
      | some o => rw [(key o).2 hy] at hx; cases hx
    | some o => rw [(key o).1 hx]
  obtain ⟨g1, g2⟩ := cx.tmp.get cx.dpw
  refine ⟨by rw [← hh]; exact iv.ext, by rw [← hh]; exact iv.rel, iv.xsz, fun d hd => ?_, fun d hd => ?_⟩
  · by_cases hw : ∃ q ∈ S ++ T, q.o.dst = some d
    · obtain ⟨q, hq, hqd⟩ := hw
      obtain ⟨u, e1, e2⟩ := iv.tm1 q hq (hall q hq) d hqd
      exact ⟨u, e1, by rw [(g1 q hq d hqd).1]; exact e2⟩
    · have hw : ∀ q ∈ S ++ T, q.o.dst ≠ some d := fun q hq e => hw ⟨q, hq, e⟩
      obtain ⟨u, e1, e2⟩ := iv.tm0 d hd (fun q hq _ => hw q hq)
      exact ⟨u, e1, by rw [g2 d hw]; exact e2⟩
  · have hw : ∀ q ∈ S ++ T, q.o.dst ≠ some d := fun q hq e => by have := (g1 q hq d e).2; exact absurd (Nat.lt_of_lt_of_le this hd) (Nat.lt_irrefl _)
    rw [g2 d hw]; exact ht0 d hd

theorem ready_mem {listed : Array Bool} {i : Nat} : i ∈ Region.ready .any ops listed ↔ i < ops.size ∧ listed.getD i true = false ∧ ∃ o, ops[i]? = some o ∧ ∀ e ∈ o.after.toList, bind1 e = true → listed.getD e.on false = true := by
  unfold Region.ready
  rw [List.mem_filter, List.mem_range]
  constructor
  · rintro ⟨h1, h2⟩
    simp only [Bool.and_eq_true, Bool.not_eq_true'] at h2
    obtain ⟨o, ho⟩ : ∃ o, ops[i]? = some o := ⟨_, Array.getElem?_eq_getElem h1⟩
    refine ⟨h1, h2.1, o, ho, fun e he hb => ?_⟩
    have := h2.2
    rw [ho] at this
    simp only [Option.map_some, Option.getD_some, Array.all_eq_true'] at this
    have := this e (by simpa using he)
    rw [binds_eq, hb] at this
    simpa using this
  · rintro ⟨h1, h2, o, ho, h3⟩
    refine ⟨h1, ?_⟩
    simp only [Bool.and_eq_true, Bool.not_eq_true']
    refine ⟨h2, ?_⟩
    rw [ho]
    simp only [Option.map_some, Option.getD_some, Array.all_eq_true']
    intro e he
    cases hb : bind1 e with
    | false => simp [binds_eq, hb]
    | true => simp [h3 e (by simpa using he) hb]

theorem draw_any (cx : Cx P call nt ops effs ρ0 s0 t0 S T cS tS sS tF sF) (ht0 : ∀ i, nt ≤ i → t0.get i = none) {ro : Option Nat} {F : Fence} (hf : FenceOf ρ0 ro F) (ds : List Deferred) {Q : Exit → Act → World → Prop}
    (hQ : ∀ a w ρ, a.defers = ds → Ext ρ0 (rdS s0) w0 s0.n sF.n ρ (rdS sF) w → Rel P ρ (rdS sF) w → TRel ρ tF nt a.tmps → Q .normal a w) :
    ∀ (fuel : Nat) (listed : Array Bool) (A B : List Rc) (cA : List Nat) (tA : Tri Value) (sA : St) (ρ : Ren) (h : Hp) (w : World) (a : Act), listed.size = ops.size → listed.toList.count false = fuel →
      Shut ops (fun i => listed[i]? = some true) → a.defers = ds → Inv P call nt ops effs ρ0 s0 w0 t0 S T cS tS sS sF (fun i => listed[i]? = some true) A B cA tA sA ρ h w a.tmps → wpAnyIn F 0 P .any ops Q fuel listed a w := by
  intro fuel
  induction fuel with
  | zero =>
    intro listed A B cA tA sA ρ h w a hsz hcnt hsh hds iv
    have hD : ∀ i, i < ops.size → listed[i]? = some true := by
      intro i hi
      have hi' : i < listed.size := by omega
      have hnf := List.count_eq_zero.1 hcnt
      cases hv : listed[i] with
      | true => rw [Array.getElem?_eq_getElem hi', hv]
      | false => exact absurd (by rw [← hv]; simp) hnf
    refine ⟨?_, ?_⟩
    · apply List.eq_nil_iff_forall_not_mem.2
      intro i hi
      obtain ⟨h1, h2, _⟩ := ready_mem.1 hi
      have := hD i h1
      simp [Array.getD, ] at h2
      obtain ⟨hlt, h2⟩ := h2
      rw [Array.getElem?_eq_getElem hlt, h2] at this; cases this
    · obtain ⟨x1, x2, x3⟩ := iv.fin cx ht0 hD
      exact hQ a w ρ hds x1 x2 x3
  | succ fuel ih =>
    intro listed A B cA tA sA ρ h w a hsz hcnt hsh hds iv
    have hgt : ∀ j, listed.getD j false = true → listed[j]? = some true := by
      intro j hj
      simp only [Array.getD] at hj
      split at hj
      · rename_i hlt; rw [Array.getElem?_eq_getElem hlt]; simpa using hj
      · cases hj
    constructor
    · intro hrd
      exfalso
      -- the first that has not been
      have hex : ∀ i, i < ops.size → listed[i]? = some true := by
        intro i
        induction i using Nat.strongRecOn with
        | _ i ihi =>
          intro hi
          have hi' : i < listed.size := by omega
          cases hv : listed[i] with
          | true => rw [Array.getElem?_eq_getElem hi', hv]
          | false =>
            exfalso
            obtain ⟨o, ho⟩ : ∃ o, ops[i]? = some o := ⟨_, Array.getElem?_eq_getElem hi⟩
            obtain ⟨m, hm, he, _⟩ := cx.grd i o ho
            have : i ∈ Region.ready .any ops listed := ready_mem.2 ⟨hi, by simp [Array.getD, hi', hv], o, ho, fun e hem hb => by
              have hlt := he e hem hb
              have := ihi e.on hlt (by omega)
              have hlt' : e.on < listed.size := by omega
              rw [Array.getElem?_eq_getElem hlt'] at this
              simp only [Array.getD, hlt', dif_pos]
              simpa using this⟩
            rw [hrd] at this; cases this
      have : listed.toList.count false = 0 := by
        apply List.count_eq_zero.2
        intro hmem
        obtain ⟨k, hk, hkv⟩ := List.mem_iff_getElem.1 hmem
        have hk' : k < listed.size := by simpa using hk
        have := hex k (by omega)
        rw [Array.getElem?_eq_getElem hk'] at this
        have h2 : listed[k] = false := by simpa using hkv
        rw [h2] at this; cases this
      omega
    · intro i hi
      obtain ⟨h1, h2, o, ho, h3⟩ := ready_mem.1 hi
      have hi' : i < listed.size := by omega
      have hfalse : listed[i] = false := by simpa [Array.getD, hi'] using h2
      obtain ⟨r, hr, rfl⟩ := cx.all i h1
      have hat := cx.at_ r hr
      rw [ho] at hat; cases hat
      obtain ⟨xs, ds'⟩ := a
      simp only at hds; subst hds
      have hedge : ∀ e ∈ r.o.after.toList, bind1 e = true → listed[e.on]? = some true := fun e he hb => hgt _ (h3 e he hb)
      refine iv.go cx ht0 hf hr (by rw [Array.getElem?_eq_getElem hi', hfalse]; simp) (fun m hm j hj => anc_sub hsh r.i r.o m ho hm hedge j hj)
        (fun q hq hDq m hm j hj => anc_sub hsh q.i q.o m (cx.at_ q hq) hm (hsh q.i hDq q.o (cx.at_ q hq)) j hj) _ (fun a' w' hds' hinv => ?_)
      obtain ⟨A', B', cA', tA', sA', ρ', h', iv'⟩ := hinv
      have hset : ∀ j, (listed.setIfInBounds r.i true)[j]? = some true ↔ (listed[j]? = some true ∨ j = r.i) := by
        intro j
        by_cases hj : r.i = j
        · subst hj; simp [hi']
        · rw [Array.getElem?_setIfInBounds_ne hj]
          constructor
          · exact .inl
          · rintro (h | h)
            · exact h
            · exact absurd h.symm hj
      refine ih (listed.setIfInBounds r.i true) A' B' cA' tA' sA' ρ' h' w' a' (by simp [hsz]) ?_ ?_ hds' ?_
      · have : (listed.setIfInBounds r.i true).toList = listed.toList.set r.i true := by simp
        rw [this, List.count_set (by simpa using hi')]
        simp [hfalse] at hcnt ⊢; omega
      · intro j hj oj hoj e he hb
        rcases (hset j).1 hj with hj | rfl
        · exact (hset _).2 (.inl (hsh j hj oj hoj e he hb))
        · rw [ho] at hoj; cases hoj
          exact (hset _).2 (.inl (hedge e he hb))
      · have : (fun i => (listed.setIfInBounds r.i true)[i]? = some true) = (fun j => listed[j]? = some true ∨ j = r.i) := by funext j; exact propext (hset j)
        rw [this]; exact iv'

theorem drawF_sound (hm : P.follows .mixedOrders = true) (hc : CallOk P call) {t : Tri Value} {d : List Deferred} {s : St} {st : Steps'} (hq : drawF P call nt ops.toList t d s = some st) :
    StLe s st.out.s ∧ st.out.d = d ∧ ∀ ρ w xs ds F (r : Option Nat) Q id, FenceOf ρ r F → Rel P ρ (rdS s) w → Fresh ρ s.n st.out.s.n → TRel ρ t nt xs → DLRel ρ d ds →
      (∀ x a w', Fin P nt ρ s w st.out x a w' → Q x a w') → (Code.region id ops true).wpIn F 0 P Q ⟨xs, ds⟩ w := by
  unfold drawF at hq
  split at hq
  · cases hq
  · rename_i pl hpl
    split at hq
    · rename_i t1 s1 h1
      split at hq
      · rename_i t2 s2 h2
        cases hq
        -- the plan
        have hplan : ∃ an, okDrawGo an ops.toList 0 = true ∧ an = ancs ops.toList [] ∧ pl.an = an ∧ pl.effs = effsOf ops.toList pl.sig ∧ okPlan ops.toList pl = true := by
          unfold planOf at hpl
          simp only at hpl
          split at hpl
          · cases hpl
          · rename_i hdr
            refine ⟨_, hdr, rfl, ?_⟩
            split at hpl
            · rename_i hok
              cases hpl
              refine ⟨?_, ?_, hok⟩
              · split <;> rfl
              · split <;> rfl
            · cases hpl
        obtain ⟨an, hdr, rfl, han, heffs, hok⟩ := hplan
        obtain ⟨S, cS, hS, trS⟩ := seqF_tr _ _ _ _ _ _ (by rw [han] at h1; exact h1)
        obtain ⟨T, hT, trT⟩ := tailF_tt _ _ _ _ _ _ h2
        obtain ⟨f1, f2, f3⟩ := draw_facts hdr
        unfold okPlan at hok
        split at hok
        · rename_i d1 hd1
          split at hok
          · rename_i d2 hd2
            split at hok
            · rename_i hleft hends
              rw [han] at hd1 hd2
              obtain ⟨b1, c1⟩ := chkS_inv _ _ _ [] (fun j => by simp [bit_zero]) hd1
              obtain ⟨b2, c2⟩ := chkT_inv _ _ _ _ b1 hd2
              simp only [List.nil_append] at b1 c1 b2 c2
              have hcover : ∀ k, k < ops.size → k ∈ pl.sig ++ pl.tau := by
                intro k hk
                have := leftOf_nil ops.toList 0 (nilB_eq.1 hleft) k (by simpa using hk)
                rw [Nat.zero_add] at this
                exact (b2 k).1 this
              have hat : ∀ r ∈ S ++ T, ops[r.i]? = some r.o := by
                intro r hr
                rcases List.mem_append.1 hr with hr | hr
                · obtain ⟨X, Y, rfl⟩ := List.append_of_mem hr
                  obtain ⟨_, _, _, _, hrest⟩ := trS.split
                  cases hrest with | cons _ _ _ _ _ _ _ h1 _ _ _ _ => exact h1
                · obtain ⟨X, Y, rfl⟩ := List.append_of_mem hr
                  obtain ⟨_, _, _, _, hrest, _⟩ := trT.split
                  cases hrest with | cons _ _ _ _ _ _ h1 _ _ _ => exact h1
              have mapSplit : ∀ {l : List Rc} {A B : List Rc} {r : Rc}, l = A ++ r :: B → l.map (·.i) = A.map (·.i) ++ r.i :: B.map (·.i) := by
                intro l A B r h; rw [h]; simp
              refine ⟨(trS.le hc).trans trT.le, rfl, fun ρ w xs ds F r Q id hf hR hF ht hd hQ => ?_⟩
              have cx : Cx P call nt ops pl.effs ρ s t S T cS t1 s1 t2 s2 := by
                refine ⟨hc, trS, trT, hat, f1, f2, f3, ?_, ?_, ?_, by rw [hS]; exact heffs, ?_, ?_, hF, ?_⟩
                · intro A r B hAB
                  rcases List.append_eq_append_iff.1 hAB with ⟨as, e1, e2⟩ | ⟨bs, e1, e2⟩
                  · obtain ⟨g1, o, m, g2, g3, g4, g5⟩ := c2 (as.map (·.i)) r.i (B.map (·.i)) (by rw [← hT]; exact mapSplit e2)
                    rw [e1, List.map_append, hS]
                    exact ⟨g1, fun m' hm' j hj => by rw [han] at *; rw [hm'] at g3; cases g3; exact g4 j hj⟩
                  · cases bs with
                    | nil =>
                      simp at e1 e2
                      obtain ⟨g1, o, m, g2, g3, g4, g5⟩ := c2 [] r.i (B.map (·.i)) (by rw [← hT, ← e2]; rfl)
                      rw [← e1, hS]
                      simp only [List.append_nil] at g1 g4
                      exact ⟨g1, fun m' hm' j hj => by rw [hm'] at g3; cases g3; exact g4 j hj⟩
                    | cons b bs =>
                      simp at e2
                      obtain ⟨rfl, e2⟩ := e2
                      obtain ⟨g1, o, m, g2, g3, g4, g5⟩ := c1 (A.map (·.i)) r.i (bs.map (·.i)) (by rw [← hS]; exact mapSplit e1)
                      exact ⟨g1, fun m' hm' j hj => by rw [hm'] at g3; cases g3; exact g5 j hj⟩
                · intro A r B hAB he m hm q hq
                  obtain ⟨g1, o, m', g2, g3, g4, g5⟩ := c1 (A.map (·.i)) r.i (B.map (·.i)) (by rw [← hS]; exact mapSplit hAB)
                  have hro := hat r (by rw [hAB]; simp)
                  rw [g2] at hro; cases hro
                  rw [hm] at g3; cases g3
                  exact (g4 he _).2 (List.mem_map_of_mem hq)
                · intro r hr hst m hm e hem
                  obtain ⟨X, Y, hXY⟩ := List.append_of_mem hr
                  obtain ⟨g1, o, m', g2, g3, g4, g5⟩ := c2 (X.map (·.i)) r.i (Y.map (·.i)) (by rw [← hT]; exact mapSplit hXY)
                  have hro := hat r (List.mem_append_right _ hr)
                  rw [g2] at hro; cases hro
                  rw [hm] at g3; cases g3
                  exact g5 hst e hem
                · intro i hi
                  have := hcover i hi
                  rw [← hS, ← hT, ← List.map_append] at this
                  obtain ⟨r, hr, e⟩ := List.mem_map.1 this
                  exact ⟨r, hr, e⟩
                · rw [hS]
                  cases htau : pl.tau with
                  | nil => rw [htau] at hT; left; cases T with | nil => rfl | cons _ _ => simp at hT
                  | cons _ _ => rw [htau] at hends; exact .inr hends
                · intro a o e
                  obtain ⟨l, ob, e1, _⟩ := hR.obj a o e
                  rcases Nat.lt_or_ge a s.n with h | h
                  · exact .inl h
                  · rcases Nat.lt_or_ge a s2.n with h' | h'
                    · have := hF a h h'; rw [this] at e1; cases e1
                    · exact .inr h'
              have iv : Inv P call nt ops pl.effs ρ s { w with drawn := w.drawn + 1 } t S T cS t1 s1 s2 (fun i => (Array.replicate ops.size false)[i]? = some true) [] S [s.n] t s ρ (rdS s) { w with drawn := w.drawn + 1 } xs := by
                have hno : ∀ i : Nat, ¬ (Array.replicate ops.size false)[i]? = some true := by
                  intro i h
                  rw [Array.getElem?_replicate] at h
                  split at h <;> cases h
                refine ⟨rfl, .nil _ _ _, trS, fun r hr => (by cases hr), fun r hr _ => hno _, fun r hr h => absurd h (hno _), fun a o => ?_, ⟨hR.obj, hR.inj, hR.glob⟩, ?_, fun a l e => .inl e, ht.1, fun r hr h => absurd h (hno _), fun d hdn _ => ht.2.1 d hdn⟩
                · constructor
                  · intro e; exact .inr ⟨e, fun r hr h => absurd h (hno _)⟩
                  · rintro (⟨r, hr, h, _⟩ | ⟨h, _⟩)
                    · exact absurd h (hno _)
                    · exact h
                · exact (Ext.refl ρ (rdS s) _ s.n).more ((trS.le hc).trans trT.le).n
              refine wpIn_region_any hm ?_
              refine draw_any (w0 := { w with drawn := w.drawn + 1 }) cx ht.2.2 hf ds (fun a w' ρ' hds hx hR' ht' => hQ _ _ _ ⟨ρ', ⟨hx.le, hx.new, hx.size, hx.os, hx.tape, hx.output, hx.own, hx.frame⟩, hR', ht', by rw [hds]; exact hd.mono hx.le, rfl⟩) ops.size (Array.replicate ops.size false) [] S [s.n] t s ρ (rdS s) { w with drawn := w.drawn + 1 } ⟨xs, ds⟩ (by simp) (by simp) ?_ rfl iv
              intro i hi
              rw [Array.getElem?_replicate] at hi
              split at hi <;> cases hi
            · cases hok
          · cases hok
        · cases hok
      · cases hq
    · cases hq
end
end Go.Ev
