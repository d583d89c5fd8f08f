/- What is known of a call ahead of its run: a call that only lays blocks, computed once on an empty memory, holds wherever it stands. -/
import Derived.Test.YtjkklcpefepohaaGreatDoorEv6
import Derived.Test.YtjkklcpefepohaaGreatDoorEv7
import Derived.Laws.Externs
import Derived.Lib.Bytealg
import Derived.Below
set_option linter.unusedVariables false
set_option linter.unusedSimpArgs false
namespace Go.Ev
noncomputable section

/-- A name moved: those from b on go to n on. -/
def shN' (b n a : Nat) : Nat := match Nat.ble b a with | true => Nat.add (Nat.sub a b) n | false => a
def shA (b n : Nat) (a : Addr) : Addr := ⟨shN' b n a.block, a.off, a.spot⟩
def shF (b n : Nat) : Fn → Fn
  | .yield a => .yield (shN' b n a)
  | f => f
mutual
def shV (b n : Nat) : Value → Value
  | .pointer (some a) => .pointer (some (shA b n a))
  | .slice (some a) l c => .slice (some (shA b n a)) l c
  | .map (some r) => .map (some (shN' b n r))
  | .func f ⟨xs⟩ ⟨ys⟩ => .func (shF b n f) ⟨shL b n xs⟩ ⟨shL b n ys⟩
  | .iface t v => .iface t (shV b n v)
  | .agg ⟨xs⟩ => .agg ⟨shL b n xs⟩
  | .tuple ⟨xs⟩ => .tuple ⟨shL b n xs⟩
  | v => v
def shL (b n : Nat) : List Value → List Value
  | [] => []
  | v :: l => shV b n v :: shL b n l
end
def shT (b n : Nat) (t : Tri Value) : Tri Value := t.map (shV b n)
def shE (b n : Nat) : List MapEntry → List MapEntry
  | [] => []
  | e :: l => ⟨shV b n e.key, shV b n e.val, e.born⟩ :: shE b n l
def shO (b n : Nat) : AObj → Option AObj
  | .row cs k e opn fz => some (.row (shT b n cs) k e opn fz)
  | .map es clock => some (.map (shE b n es) clock)
  | .iter s p => some (.iter s p)
  | _ => none

theorem shT_get (b n : Nat) (t : Tri Value) (i : Nat) : (shT b n t).get i = (t.get i).map (shV b n) := Tri.get_map _ _ _

section
variable {ρ ρ' : Ren} {b n : Nat}
mutual
theorem shV_rel (h : ∀ a l, ρ a = some l → ρ' (shN' b n a) = some l) : ∀ {v v' : Value}, VRel ρ v v' → VRel ρ' (shV b n v) v'
  | _, _, .bool x => by simp only [shV]; exact .bool x
  | _, _, .int k x => by simp only [shV]; exact .int k x
  | _, _, .float k x => by simp only [shV]; exact .float k x
  | _, _, .complex k x y => by simp only [shV]; exact .complex k x y
  | _, _, .string s => by simp only [shV]; exact .string s
  | _, _, .ptr0 => by simp only [shV]; exact .ptr0
  | _, _, .ptr a o l e => by simp only [shV, shA]; exact .ptr _ o l (h a l e)
  | _, _, .sl0 => by simp only [shV]; exact .sl0
  | _, _, .sl a o l p len cap e n1 e1 e2 => by simp only [shV, shA]; exact .sl _ o l p len cap (h a l e) n1 e1 e2
  | _, _, .slo a o k l p len cap e e0 e1 e2 e3 => by simp only [shV, shA]; exact .slo _ o k l p len cap (h a l e) e0 e1 e2 e3
  | _, _, .map0 => by simp only [shV]; exact .map0
  | _, _, .map a l e => by simp only [shV]; exact .map _ l (h a l e)
  | _, _, .chan0 => by simp only [shV]; exact .chan0
  | _, _, .fn f xs ys xs' ys' e e' => by simp only [shV, shF]; exact .fn f _ _ _ _ (shL_rel h e) (shL_rel h e')
  | _, _, .yield a l e => by simp only [shV, shF, shL]; exact .yield _ l (h a l e)
  | _, _, .nilFunc => by simp only [shV]; exact .nilFunc
  | _, _, .nilIface => by simp only [shV]; exact .nilIface
  | _, _, .iface t v v' e => by simp only [shV]; exact .iface t _ _ (shV_rel h e)
  | _, _, .agg xs xs' e => by simp only [shV]; exact .agg _ _ (shL_rel h e)
  | _, _, .tuple xs xs' e => by simp only [shV]; exact .tuple _ _ (shL_rel h e)
theorem shL_rel (h : ∀ a l, ρ a = some l → ρ' (shN' b n a) = some l) : ∀ {l l' : List Value}, LRel ρ l l' → LRel ρ' (shL b n l) l'
  | _, _, .nil => by simp only [shL]; exact .nil
  | _, _, .cons v v' l l' e e' => by simp only [shL]; exact .cons _ _ _ _ (shV_rel h e) (shL_rel h e')
end
end

section
variable {P : Program} {ρ ρ' : Ren} {b n : Nat}
theorem shE_rel (h : ∀ a l, ρ a = some l → ρ' (shN' b n a) = some l) : ∀ {es es' : List MapEntry}, ELRel ρ es es' → ELRel ρ' (shE b n es) es' := by
  intro es es' he
  induction he with
  | nil => exact .nil
  | cons e e' l l' hd _ ih => exact .cons _ _ _ _ ⟨shV_rel h hd.1, shV_rel h hd.2.1, hd.2.2⟩ ih
theorem shO_rel (h : ∀ a l, ρ a = some l → ρ' (shN' b n a) = some l) {l : Loc} {o o' : AObj} {ob : Obj} (ho : ObjRel P ρ l o ob) (hs : shO b n o = some o') : ObjRel P ρ' l o' ob := by
  cases o with
  | row cs k e opn fz =>
    simp only [shO] at hs; cases hs
    obtain ⟨c, fr, e1, e2, e3⟩ := ho
    exact ⟨c, fr, e1, fun i hi => let ⟨v, v', p, q, r⟩ := e2 i hi; ⟨shV b n v, v', by rw [shT_get, p]; rfl, q, shV_rel h r⟩, e3⟩
  | map es clock =>
    simp only [shO] at hs; cases hs
    obtain ⟨es', e1, e2⟩ := ho
    exact ⟨_, e1, shE_rel h e2⟩
  | iter s pos => simp only [shO] at hs; cases hs; exact ho
  | dfd x => simp [shO] at hs
  | loop _ _ _ _ _ _ _ _ => simp [shO] at hs
end

/-- The objects at some names. -/
def getAll (s : St) : List Nat → Option (List (Nat × AObj))
  | [] => some []
  | a :: l => match rdS s a with
    | some o => match getAll s l with
      | some r => some ((a, o) :: r)
      | none => none
    | none => none
/-- What is kept of a call. -/
def pickS (r : Option COut) (names : List Nat) : Option (Value × List (Nat × AObj) × Nat) := match r with
  | some ⟨.ret v, s⟩ => match getAll s names with
    | some l => some (v, l, s.n)
    | none => none
  | _ => none
structure Sum0 where
  f : FuncId
  args : List Value
  v : Value
  objs : List (Nat × AObj)
  n : Nat
def namesOf : List (Nat × AObj) → List Nat
  | [] => []
  | (a, _) :: l => a :: namesOf l
/-- The call, run on an empty memory with names from b on. -/
def Sum0.Ok (P : Program) (call : CallF) (b : Nat) (e : Sum0) : Prop := pickS (call (.fn e.f) e.args ⟨.leaf, b⟩) (namesOf e.objs) = some (e.v, e.objs, e.n)
/-- Objects laid at moved names. -/
def layAll (b n k : Nat) : List (Nat × AObj) → Tri (Nat × AObj) → Option (Tri (Nat × AObj))
  | [], h => some h
  | (a, o) :: l, h => match Nat.ble b a, shO b n o with
    | true, some o' => layAll b n k l (h.set (shN' b n a) (k, o'))
    | _, _ => none
/-- What the call comes to, at a state. -/
def Sum0.use (b : Nat) (e : Sum0) (s : St) : Option COut := match Nat.ble b s.n, Nat.ble b e.n with
  | true, true => match layAll b s.n s.n e.objs s.h with
    | some h => some ⟨.ret (shV b s.n e.v), ⟨h, Nat.add s.n (Nat.sub e.n b)⟩⟩
    | none => none
  | _, _ => none

theorem getAll_mem {s : St} : ∀ {l : List Nat} {r : List (Nat × AObj)}, getAll s l = some r → ∀ a o, (a, o) ∈ r → rdS s a = some o := by
  intro l
  induction l with
  | nil => intro r h a o hm; simp [getAll] at h; subst h; cases hm
  | cons x l ih =>
    intro r h a o hm
    simp only [getAll] at h
    split at h
    · rename_i ox hx
      split at h
      · rename_i r' hr
        cases h
        rcases List.mem_cons.1 hm with h | h
        · cases h; exact hx
        · exact ih hr a o h
      · cases h
    · cases h
theorem layAll_get {b n k : Nat} : ∀ (l : List (Nat × AObj)) (h h' : Tri (Nat × AObj)), layAll b n k l h = some h' →
    ∀ x kk o, h'.get x = some (kk, o) → (h.get x = some (kk, o)) ∨ (kk = k ∧ ∃ a oa, (a, oa) ∈ l ∧ b ≤ a ∧ x = shN' b n a ∧ shO b n oa = some o) := by
  intro l
  induction l with
  | nil => intro h h' e x kk o hx; simp [layAll] at e; subst e; exact .inl hx
  | cons p l ih =>
    obtain ⟨a, oa⟩ := p
    intro h h' e x kk o hx
    simp only [layAll] at e
    split at e
    · rename_i o' hb ho'
      rcases ih _ _ e x kk o hx with h1 | ⟨h1, a1, o1, h2, h3⟩
      · rw [Tri.get_set] at h1
        split at h1
        · rename_i hxa
          cases h1
          exact .inr ⟨rfl, a, oa, List.mem_cons_self, Nat.le_of_ble_eq_true hb, hxa, ho'⟩
        · exact .inl h1
      · exact .inr ⟨h1, a1, o1, List.mem_cons_of_mem _ h2, h3⟩
    · cases e

theorem flat1_eq {ρ : Ren} {v v' : Value} (h : flat1 v = true) (hv : VRel ρ v v') : v' = v := by
  cases hv <;> first
    | rfl
    | (simp [flat1, noneB, andB] at h)
theorem flatL_eq {ρ : Ren} : ∀ {l l' : List Value}, flatL l = true → LRel ρ l l' → l' = l := by
  intro l
  induction l with
  | nil => intro l' _ h; cases h; rfl
  | cons x l ih =>
    intro l' h hl
    simp only [flatL, andB_eq] at h
    cases hl with
    | cons _ x' _ l' e hl => rw [flat1_eq h.1 e, ih h.2 hl]
theorem EOk.imp {P : Program} {ρ ρ' : Ren} {s s' : St} {w : World} {c c' : COut} {res : Result Next} (h : EOk P ρ s w c res) (hp : ∀ e w', Post P ρ s w c e w' → Post P ρ' s' w c' e w') : EOk P ρ' s' w c' res := by
  cases res with
  | ok x w' =>
    cases x with
    | value v => exact hp _ _ h
    | skip => exact hp _ _ h
    | enter f args => exact CallsIn.mono h fun e w'' he => hp e w'' he
    | round l f tmps asg body => exact RoundIn.mono h fun e w'' he => hp e w'' he
    | _ => exact h.elim
  | halt x w' =>
    cases x with
    | panic v => exact hp _ _ h
    | _ => exact h.elim
def renS (b n m : Nat) (ρ ρ1 : Ren) : Ren := fun a => if n ≤ a ∧ a < m then ρ1 (a - n + b) else ρ a
theorem renS_in {b n m : Nat} {ρ ρ1 : Ren} {a : Nat} (h : n ≤ a ∧ a < m) : renS b n m ρ ρ1 a = ρ1 (a - n + b) := if_pos h
theorem renS_out {b n m : Nat} {ρ ρ1 : Ren} {a : Nat} (h : ¬ (n ≤ a ∧ a < m)) : renS b n m ρ ρ1 a = ρ a := if_neg h
theorem Sum0.sound {P : Program} {call : CallF} (hc : CallOk P call) {b : Nat} (hb : P.globals.size ≤ b) {e : Sum0} (hok : e.Ok P call b) (hfl : flatL e.args = true) {s : St} {c : COut} (hu : e.use b s = some c) :
    StLe s c.s ∧ ∀ ρ w args', Rel P ρ (rdS s) w → Fresh ρ s.n c.s.n → LRel ρ e.args args' → EOk P ρ s w c ((callFunc e.f ⟨args'⟩).run P w) := by
  unfold Sum0.Ok pickS at hok
  split at hok
  · rename_i v1 s1 hcall
    split at hok
    · rename_i l1 hl1
      have hok := Option.some.inj hok
      have e1 : v1 = e.v := congrArg (·.1) hok
      have e2 : l1 = e.objs := congrArg (·.2.1) hok
      have e3 : s1.n = e.n := congrArg (·.2.2) hok
      subst e1
      subst e2
      unfold Sum0.use at hu
      split at hu
      · rename_i hbn hbe
        have hbn : b ≤ s.n := Nat.le_of_ble_eq_true hbn
        have hbe : b ≤ e.n := Nat.le_of_ble_eq_true hbe
        split at hu
        · rename_i h' hlay
          cases hu
          obtain ⟨a1, a2⟩ := hc _ _ _ _ hcall
          simp only at a1 a2
          have hget := layAll_get _ _ _ hlay
          have hsh : ∀ a, b ≤ a → shN' b s.n a = a - b + s.n := by
            intro a ha
            unfold shN'
            rw [Nat.ble_eq_true_of_le ha]; rfl
          have hsh0 : ∀ a, a < b → shN' b s.n a = a := by
            intro a ha
            unfold shN'
            have : Nat.ble b a = false := by rw [← Bool.not_eq_true, Nat.ble_eq]; omega
            rw [this]
          have hN : (Nat.add s.n (Nat.sub e.n b)) = s.n + (e.n - b) := rfl
          refine ⟨⟨by show s.n ≤ s.n + _; omega, fun x k o hx hk => ?_, fun x y hx hn => ?_⟩, fun ρ w args' hR hF ha => ?_⟩
          · rcases hget x k o hx with h1 | ⟨h1, _⟩
            · exact h1
            · omega
          · obtain ⟨k, o⟩ := y
            rcases hget x k o hx with h1 | ⟨h1, a, oa, hm, hba, hxa, _⟩
            · exact ⟨_, h1⟩
            · exfalso
              have hn : s.n + (e.n - b) ≤ x := hn
              rw [hsh a hba] at hxa
              have hro := getAll_mem hl1 a oa hm
              -- the names that are laid are below the run's end
              have : a < e.n := by
                rcases Nat.lt_or_ge a s1.n with h | h
                · omega
                · unfold rdS at hro
                  split at hro
                  · rename_i k' o' heq
                    obtain ⟨y, hy⟩ := a1.dom a _ heq h
                    rw [Tri.get_leaf] at hy; cases hy
                  · cases hro
              omega
          · have hleaf : ∀ a o, rdS ⟨.leaf, b⟩ a ≠ some o := by
              intro a o h; unfold rdS at h; rw [Tri.get_leaf] at h; cases h
            have hR0 : Rel P (fun a => if a < b then ρ a else none) (rdS ⟨.leaf, b⟩) w := by
              refine ⟨fun a o h => absurd h (hleaf a o), fun a _ o _ _ _ h => absurd h (hleaf a o), fun g hg => ?_⟩
              rw [if_pos (by omega)]; exact hR.glob g hg
            have hF0 : Fresh (fun a => if a < b then ρ a else none) b s1.n := by
              intro a h1 _
              exact if_neg (by omega)
            have hargs : LRel (fun a => if a < b then ρ a else none) e.args args' := by
              rw [flatL_eq hfl ha]; exact flatL_rel _ hfl
            refine EOk.imp (a2 _ w args' hR0 hF0 hargs) fun en w' hp => ?_
            obtain ⟨ρ1, x1, x2, x3⟩ := hp
            simp only at x1 x2 x3
            have hnew : ∀ a l, ρ1 a = some l → (a < b ∧ ρ a = some l) ∨ (b ≤ a ∧ a < e.n) := by
              intro a l h
              rcases x1.new a l h with h | h
              · have h : (if a < b then ρ a else none) = some l := h
                split at h
                · exact .inl ⟨by assumption, h⟩
                · cases h
              · exact .inr ⟨h.1, by omega⟩
            have hρ' : ∀ a l, ρ1 a = some l → (renS b s.n (s.n + (e.n - b)) ρ ρ1) (shN' b s.n a) = some l := by
              intro a l h
              rcases hnew a l h with ⟨h1, h2⟩ | ⟨h1, h2⟩
              · rw [hsh0 a h1, renS_out (by omega)]; exact h2
              · rw [hsh a h1, renS_in (by omega)]
                have : a - b + s.n - s.n + b = a := by omega
                rw [this]; exact h
            have hle : ρ.le (renS b s.n (s.n + (e.n - b)) ρ ρ1) := by
              intro a l h
              rw [renS_out]
              · exact h
              · intro hx
                have := hF a hx.1 hx.2
                rw [this] at h; cases h
            have hold : ∀ k, k < w.heap.size → w'.heap[k]? = w.heap[k]? := fun k hk => x1.frame k hk fun a o l h => absurd h (hleaf a o)
            have hblk : ∀ a o l, rdS s a = some o → ρ a = some l → l.b < w.heap.size := by
              intro a o l h1 h2
              obtain ⟨l', ob, q1, q2, _⟩ := hR.obj a o h1
              rw [h2] at q1; cases q1
              rcases Nat.lt_or_ge l.b w.heap.size with h | h
              · exact h
              · rw [Array.getElem?_eq_none h] at q2; cases q2
            -- what stands at a name
            have hst : ∀ a o, rdS ⟨h', s.n + (e.n - b)⟩ a = some o → (rdS s a = some o ∧ ∀ l, ρ a = some l → (renS b s.n (s.n + (e.n - b)) ρ ρ1) a = some l) ∨
                ∃ a1 oa l, a = shN' b s.n a1 ∧ rdS s1 a1 = some oa ∧ ρ1 a1 = some l ∧ shO b s.n oa = some o ∧ w.heap.size ≤ l.b ∧ (renS b s.n (s.n + (e.n - b)) ρ ρ1) a = some l := by
              intro a o h
              unfold rdS at h
              split at h
              · rename_i k o' heq
                cases h
                rcases hget a k o heq with h1 | ⟨_, a1, oa, hm, hba, hxa, hso⟩
                · exact .inl ⟨by unfold rdS; rw [h1], fun l hl => hle a l hl⟩
                · have hro := getAll_mem hl1 a1 oa hm
                  obtain ⟨l, ob, q1, q2, q3⟩ := x2.obj a1 oa hro
                  refine .inr ⟨a1, oa, l, hxa, hro, q1, hso, ?_, by rw [hxa]; exact hρ' a1 l q1⟩
                  rcases x1.own a1 oa l hro q1 with h | ⟨a0, o0, _, h, _⟩
                  · exact h
                  · exact absurd h (hleaf a0 o0)
              · cases h
            refine ⟨renS b s.n (s.n + (e.n - b)) ρ ρ1, ?_, ?_, ?_⟩
            · refine ⟨hle, fun a l h => ?_, x1.size, x1.os, x1.tape, x1.output, fun a o l h1 h2 => ?_, fun k hk _ => hold k hk⟩
              · by_cases hx : s.n ≤ a ∧ a < s.n + (e.n - b)
                · exact .inr hx
                · rw [renS_out hx] at h; exact .inl h
              · rcases hst a o h1 with ⟨g1, g2⟩ | ⟨a1, oa, l', g1, g2, g3, g4, g5, g6⟩
                · obtain ⟨l0, ob, q1, _⟩ := hR.obj a o g1
                  have := g2 l0 q1
                  rw [h2] at this; cases this
                  exact .inr ⟨a, o, l, g1, q1, rfl⟩
                · rw [h2] at g6; cases g6; exact .inl g5
            · refine ⟨fun a o h => ?_, fun a b' o o' l l' h1 h2 h3 h4 hne => ?_, fun g hg => hle _ _ (hR.glob g hg)⟩
              · rcases hst a o h with ⟨g1, g2⟩ | ⟨a1, oa, l', g1, g2, g3, g4, g5, g6⟩
                · obtain ⟨l0, ob, q1, q2, q3⟩ := hR.obj a o g1
                  exact ⟨l0, ob, g2 l0 q1, by rw [hold _ (hblk a o l0 g1 q1)]; exact q2, q3.mono hle⟩
                · obtain ⟨l0, ob, q1, q2, q3⟩ := x2.obj a1 oa g2
                  rw [g3] at q1; cases q1
                  exact ⟨l', ob, g6, q2, shO_rel hρ' q3 g4⟩
              · rcases hst a o h1 with ⟨g1, g2⟩ | ⟨a1, oa, la, g1, g2, g3, g4, g5, g6⟩
                · obtain ⟨l0, _, q1, _⟩ := hR.obj a o g1
                  have e0 := g2 l0 q1
                  rw [h3] at e0; cases e0
                  rcases hst b' o' h2 with ⟨f1, f2⟩ | ⟨b1, ob1, lb, f1, f2, f3, f4, f5, f6⟩
                  · obtain ⟨l1, _, p1, _⟩ := hR.obj b' o' f1
                    have e1 := f2 l1 p1
                    rw [h4] at e1; cases e1
                    exact hR.inj a b' o o' l l' g1 f1 q1 p1 hne
                  · rw [h4] at f6; cases f6
                    have := hblk a o l g1 q1
                    omega
                · rw [h3] at g6; cases g6
                  rcases hst b' o' h2 with ⟨f1, f2⟩ | ⟨b1, ob1, lb, f1, f2, f3, f4, f5, f6⟩
                  · obtain ⟨l1, _, p1, _⟩ := hR.obj b' o' f1
                    have e1 := f2 l1 p1
                    rw [h4] at e1; cases e1
                    have := hblk b' o' l' f1 p1
                    omega
                  · rw [h4] at f6; cases f6
                    exact x2.inj a1 b1 oa ob1 l l' g2 f2 g3 f3 (fun h => hne (by rw [g1, f1, h]))
            · cases en with
              | returned v' => exact shV_rel hρ' x3
              | panicked ch => exact x3.elim
              | outgrown => exact x3.elim
        · cases hu
      · cases hu
    · cases hok
  · cases hok
end
end Go.Ev

/- What is known of calls ahead of their run: functions without a body, and calls that were computed once. -/
namespace Go.Ev

/-- The entry of a function without a body. -/
def xtE : Xt → Array Value → Sem Value
  | .same => Extern.AbiNoEscape.same
  | .count => Extern.BytealgCount.count
  | .index => Extern.BytealgIndexByte.indexByte
structure XtOk (P : Program) (f : FuncId) (fn : Func) (x : Xt) : Prop where
  hf : P.funcs[f]? = some fn
  hname : (fn.name == "runtime.NumGoroutine") = false
  hb : fn.body.isNone = true
  hn : Extern.findNext fn = none
  he : Extern.find fn = some (xtE x)

theorem byte_mod (c : Nat) : (c.toUInt8).toNat = c % 256 := by simp
theorem countB_eq (c : UInt8) : ∀ (l : List UInt8) (n : Nat), countB c.toNat l n = n + l.count c := by
  intro l
  induction l with
  | nil => intro n; rfl
  | cons b l ih =>
    intro n
    simp only [countB]
    split
    · rename_i h
      have : b = c := UInt8.toNat_inj.1 (Nat.eq_of_beq_eq_true h)
      subst this
      rw [ih, List.count_cons_self, show Nat.add n 1 = n + 1 from rfl]; omega
    · rename_i h
      have : b ≠ c := by intro e; subst e; rw [Nat.beq_refl] at h; cases h
      rw [ih, List.count_cons_of_ne this]
theorem indexB_eq (c : UInt8) : ∀ (l : List UInt8) (n : Nat), indexB c.toNat l n = (if Lib.indexByte l c == -1 then -1 else (n : Int) + Lib.indexByte l c) := by
  intro l
  induction l with
  | nil => intro n; rfl
  | cons b l ih =>
    intro n
    simp only [indexB, Lib.indexByte]
    split
    · rename_i h
      have : b = c := UInt8.toNat_inj.1 (Nat.eq_of_beq_eq_true h)
      subst this
      simp
    · rename_i h
      have hne : (b == c) = false := by
        rw [beq_eq_false_iff_ne]; intro e; subst e; rw [Nat.beq_refl] at h; cases h
      rw [ih, show Nat.add n 1 = n + 1 from rfl]
      simp only [hne, Bool.false_eq_true, if_false]
      have hge := Lib.indexByte_ge l c
      by_cases hm : Lib.indexByte l c = -1
      · simp [hm]
      · have h1 : (Lib.indexByte l c == -1) = false := by simpa using hm
        simp only [h1, Bool.false_eq_true, if_false]
        have h2 : (Lib.indexByte l c + 1 == -1) = false := by
          rw [beq_eq_false_iff_ne]; omega
        simp only [h2, Bool.false_eq_true, if_false]
        omega

theorem LRel.inv1 {ρ : Ren} {v : Value} {l : List Value} (h : LRel ρ [v] l) : ∃ v', l = [v'] ∧ VRel ρ v v' := by
  cases h with
  | cons _ v' _ l' h1 h2 => cases h2; exact ⟨v', rfl, h1⟩
theorem LRel.inv2 {ρ : Ren} {v u : Value} {l : List Value} (h : LRel ρ [v, u] l) : ∃ v' u', l = [v', u'] ∧ VRel ρ v v' ∧ VRel ρ u u' := by
  cases h with
  | cons _ v' _ l' h1 h2 =>
    obtain ⟨u', rfl, h3⟩ := h2.inv1
    exact ⟨v', u', rfl, h1, h3⟩
theorem xtF_ok {P : Program} {x : Xt} {args : List Value} {v : Value} (h : xtF x args = some v) {ρ : Ren} {args' : List Value} (ha : LRel ρ args args') (w : World) : ∃ v', (xtE x ⟨args'⟩).run P w = .ok v' w ∧ VRel ρ v v' := by
  unfold xtF at h
  split at h
  · cases h
    obtain ⟨v', rfl, hv⟩ := ha.inv1
    exact ⟨v', rfl, hv⟩
  · rename_i s c
    cases h
    obtain ⟨v', u', rfl, hv, hu⟩ := ha.inv2
    cases hv; cases hu
    refine ⟨_, Lib.run_countString s (Int.ofNat c) w, ?_⟩
    have : (countB (Nat.mod c 256) s.data.toList 0) = Lib.countByte s.data.toList (Int.ofNat c).toNat.toUInt8 := by
      have e := countB_eq (Int.ofNat c).toNat.toUInt8 s.data.toList 0
      rw [byte_mod] at e
      unfold Lib.countByte
      rw [show Nat.mod c 256 = (Int.ofNat c).toNat % 256 from rfl, e]; simp
    rw [this]; exact .int _ _
  · rename_i s c
    cases h
    obtain ⟨v', u', rfl, hv, hu⟩ := ha.inv2
    cases hv; cases hu
    refine ⟨_, Lib.run_indexByteString s (Int.ofNat c) w, ?_⟩
    have : (indexB (Nat.mod c 256) s.data.toList 0) = Lib.indexByte s.data.toList (Int.ofNat c).toNat.toUInt8 := by
      have e := indexB_eq (Int.ofNat c).toNat.toUInt8 s.data.toList 0
      rw [byte_mod] at e
      have e : indexB (Nat.mod c 256) s.data.toList 0 = _ := e
      rw [e]
      split
      · rename_i h1; have := eq_of_beq h1; omega
      · simp
    rw [this]; exact .int _ _
  · cases h

theorem xtSm_ok {P : Program} {xt : FuncId → Option Xt} {sm : Summ} (hx : ∀ f x, xt f = some x → ∃ fn, XtOk P f fn x) (hs : SummOk P sm) : SummOk P (xtSm xt sm) := by
  intro f args s c h
  unfold xtSm at h
  split at h
  · rename_i x hxt
    obtain ⟨fn, ho⟩ := hx f x hxt
    split at h
    · rename_i v hv
      cases h
      refine ⟨.refl _, fun ρ w args' hR hF ha => ?_⟩
      obtain ⟨v', h1, h2⟩ := xtF_ok (P := P) hv ha w
      rw [run_callFunc_extern ho.hf ho.hname ho.hb ho.hn ho.he, h1]
      exact ⟨ρ, .refl _ _ _ _, hR, h2⟩
    · cases h
  · exact hs f args s c h

/-- Arguments alike: texts, whole numbers, truths, nothing. -/
def eqArg : Value → Value → Bool
  | .string a, .string b => eqBytes a.data.toList b.data.toList
  | .int k a, .int k' b => andB (eqK k k') (eqI a b)
  | .bool a, .bool b => eqB a b
  | .slice none a b, .slice none c d => andB (Nat.beq a c) (Nat.beq b d)
  | .pointer none, .pointer none => true
  | _, _ => false
def eqArgs : List Value → List Value → Bool
  | [], [] => true
  | a :: l, b :: m => andB (eqArg a b) (eqArgs l m)
  | _, _ => false
theorem eqArg_eq {a b : Value} (h : eqArg a b = true) : a = b := by
  unfold eqArg at h
  split at h
  · rename_i x y
    rw [eqBytes_eq] at h
    have h := eq_of_beq h
    obtain ⟨⟨x⟩⟩ := x; obtain ⟨⟨y⟩⟩ := y
    simp only at h; rw [h]
  · rw [andB_eq] at h
    obtain ⟨h1, h2⟩ := h
    rw [eqK_eq] at h1; rw [eqI_eq] at h2
    rw [h1, of_decide_eq_true h2]
  · rename_i x y; cases x <;> cases y <;> first | rfl | cases h
  · rw [andB_eq] at h
    rw [Nat.eq_of_beq_eq_true h.1, Nat.eq_of_beq_eq_true h.2]
  · rfl
  · cases h
theorem eqArgs_eq : ∀ {a b : List Value}, eqArgs a b = true → a = b := by
  intro a
  induction a with
  | nil => intro b h; cases b; rfl; cases h
  | cons x l ih =>
    intro b h
    cases b with
    | nil => cases h
    | cons y m =>
      simp only [eqArgs, andB_eq] at h
      rw [eqArg_eq h.1, ih h.2]
/-- What a list of calls tells. -/
noncomputable def sumFind (b : Nat) (args : List Value) (s : St) : List Sum0 → Option (Option COut)
  | [] => none
  | e :: l => match eqArgs args e.args with
    | true => some (e.use b s)
    | false => sumFind b args s l
noncomputable def sumSm (b : Nat) (tab : FuncId → List Sum0) : Summ := fun f args s => sumFind b args s (tab f)
theorem sumFind_mem {b : Nat} {args : List Value} {s : St} {r : Option COut} : ∀ {l : List Sum0}, sumFind b args s l = some r → ∃ e ∈ l, e.args = args ∧ r = e.use b s := by
  intro l
  induction l with
  | nil => intro h; cases h
  | cons e l ih =>
    intro h
    simp only [sumFind] at h
    split at h
    · rename_i he
      cases h
      exact ⟨e, List.mem_cons_self, (eqArgs_eq he).symm, rfl⟩
    · obtain ⟨e', h1, h2⟩ := ih h
      exact ⟨e', List.mem_cons_of_mem _ h1, h2⟩
theorem sumSm_ok {P : Program} {call : CallF} (hc : CallOk P call) {b : Nat} (hb : P.globals.size ≤ b) {tab : FuncId → List Sum0} (h : ∀ f, ∀ e ∈ tab f, e.f = f ∧ e.Ok P call b ∧ flatL e.args = true) : SummOk P (sumSm b tab) := by
  intro f args s c hs
  obtain ⟨e, h1, h2, h3⟩ := sumFind_mem hs
  obtain ⟨h4, h5, h6⟩ := h f e h1
  subst h2; subst h4
  exact Sum0.sound hc hb h5 h6 h3.symm
theorem noSm_ok (P : Program) : SummOk P (fun _ _ _ => none) := by intro f args s c h; cases h
end Go.Ev

/- A call that reads some known rows and lays blocks, computed once, holds wherever these rows are. -/
namespace Go.Ev
noncomputable section

/-- A known row: its name, its cells, its elements' type. -/
structure PRow where
  a : Nat
  l : List Value
  ty : TypeId
structure Sum1 where
  f : FuncId
  args : List Value
  pre : List PRow
  v : Value
  objs : List (Nat × AObj)
  n : Nat
def layPre : List PRow → Tri (Nat × AObj) → Tri (Nat × AObj)
  | [], h => h
  | p :: r, h => layPre r (h.set p.a (0, .row (rowOf p.l) (List.length p.l) p.ty false false))
/-- None of them was turned. -/
def stayed (s : St) : List PRow → Bool
  | [] => true
  | p :: r => match s.h.get p.a with
    | some (0, _) => stayed s r
    | _ => false
def pick1 (r : Option COut) (names : List Nat) (pre : List PRow) : Option (Value × List (Nat × AObj) × Nat) := match r with
  | some ⟨.ret v, s⟩ => match stayed s pre, getAll s names with
    | true, some l => some (v, l, s.n)
    | _, _ => none
  | _ => none
/-- The rows are flat, below b, each once. -/
def preOk (b : Nat) : List PRow → Bool
  | [] => true
  | p :: r => andB (andB (Nat.ble (Nat.succ p.a) b) (flatL p.l)) (andB (notB (memN p.a (r.map (·.a)))) (preOk b r))
structure Sum1.Ok (P : Program) (call : CallF) (b : Nat) (e : Sum1) : Prop where
  run : pick1 (call (.fn e.f) e.args ⟨layPre e.pre .leaf, b⟩) (namesOf e.objs) e.pre = some (e.v, e.objs, e.n)
  pre : preOk b e.pre = true
  b0 : Nat.ble 1 b = true
  above : e.objs.all (fun p => Nat.ble b p.1) = true
/-- Are the rows there? -/
def chkPre (s : St) : List PRow → Bool
  | [] => true
  | p :: r => match rdS s p.a with
    | some (.row cs n ty false false) => match andB (Nat.beq n (List.length p.l)) (Nat.beq ty p.ty), cellsFrom cs n 0 with
      | true, some l => andB (eqArgs l p.l) (chkPre s r)
      | _, _ => false
    | _ => false
def Sum1.use (b : Nat) (e : Sum1) (s : St) : Option COut := match Nat.ble b s.n, Nat.ble b e.n, chkPre s e.pre with
  | true, true, true => match layAll b s.n s.n e.objs s.h with
    | some h => some ⟨.ret (shV b s.n e.v), ⟨h, Nat.add s.n (Nat.sub e.n b)⟩⟩
    | none => none
  | _, _, _ => none
end

theorem layPre_get : ∀ (r : List PRow) (h : Tri (Nat × AObj)) (a : Nat) (y : Nat × AObj), (layPre r h).get a = some y → (h.get a = some y) ∨ ∃ p ∈ r, p.a = a ∧ y = (0, .row (rowOf p.l) (List.length p.l) p.ty false false) := by
  intro r
  induction r with
  | nil => intro h a y e; exact .inl e
  | cons p r ih =>
    intro h a y e
    simp only [layPre] at e
    rcases ih _ a y e with h1 | ⟨q, h1, h2⟩
    · rw [Tri.get_set] at h1
      split at h1
      · rename_i ha; cases h1; exact .inr ⟨p, List.mem_cons_self, ha.symm, rfl⟩
      · exact .inl h1
    · exact .inr ⟨q, List.mem_cons_of_mem _ h1, h2⟩
theorem layPre_out : ∀ (r : List PRow) (h : Tri (Nat × AObj)) (a : Nat), (∀ p ∈ r, p.a ≠ a) → (layPre r h).get a = h.get a := by
  intro r
  induction r with
  | nil => intro h a _; rfl
  | cons p r ih =>
    intro h a hn
    simp only [layPre]
    rw [ih _ _ fun q hq => hn q (List.mem_cons_of_mem _ hq), Tri.get_set, if_neg (fun e => hn p List.mem_cons_self e.symm)]
theorem preOk_inv {b : Nat} : ∀ {r : List PRow}, preOk b r = true → ∀ p ∈ r, p.a < b ∧ flatL p.l = true ∧ ∀ h, (layPre r h).get p.a = some (0, .row (rowOf p.l) (List.length p.l) p.ty false false) := by
  intro r
  induction r with
  | nil => intro _ p hp; cases hp
  | cons q r ih =>
    intro h p hp
    simp only [preOk, andB_eq] at h
    obtain ⟨⟨h1, h2⟩, h3, h4⟩ := h
    rcases List.mem_cons.1 hp with rfl | hp
    · refine ⟨Nat.le_of_ble_eq_true h1, h2, fun h => ?_⟩
      simp only [layPre]
      rw [layPre_out, Tri.get_set, if_pos rfl]
      intro x hx e
      have : memN p.a (r.map (·.a)) = true := by
        clear h3 h4 ih hp
        induction r with
        | nil => cases hx
        | cons y r ih =>
          simp only [List.map_cons, memN]
          rcases List.mem_cons.1 hx with rfl | hx
          · rw [e, Nat.beq_refl]
          · split
            · rfl
            · exact ih hx
      rw [this] at h3; cases h3
    · obtain ⟨a1, a2, a3⟩ := ih h4 p hp
      exact ⟨a1, a2, fun h => by simp only [layPre]; exact a3 _⟩
theorem stayed_inv {s : St} : ∀ {r : List PRow}, stayed s r = true → ∀ p ∈ r, ∃ o, s.h.get p.a = some (0, o) := by
  intro r
  induction r with
  | nil => intro _ p hp; cases hp
  | cons q r ih =>
    intro h p hp
    simp only [stayed] at h
    split at h
    · rename_i o ho
      rcases List.mem_cons.1 hp with rfl | hp
      · exact ⟨o, ho⟩
      · exact ih h p hp
    · cases h
theorem chkPre_inv {s : St} : ∀ {r : List PRow}, chkPre s r = true → ∀ p ∈ r, ∃ cs, rdS s p.a = some (.row cs (List.length p.l) p.ty false false) ∧ ∀ i, i < p.l.length → cs.get i = p.l[i]? := by
  intro r
  induction r with
  | nil => intro _ p hp; cases hp
  | cons q r ih =>
    intro h p hp
    simp only [chkPre] at h
    split at h
    · rename_i cs n ty hrow
      split at h
      · rename_i l h1 h2
        rw [andB_eq] at h h1
        rcases List.mem_cons.1 hp with rfl | hp
        · have e1 := Nat.eq_of_beq_eq_true h1.1
          have e2 := Nat.eq_of_beq_eq_true h1.2
          subst e1; subst e2
          have e3 := eqArgs_eq h.1
          subst e3
          obtain ⟨_, g⟩ := cellsFrom_get _ _ _ _ h2
          exact ⟨cs, hrow, fun i hi => by have := g i hi; rw [Nat.zero_add] at this; exact this⟩
        · exact ih h.2 p hp
      · cases h
    · cases h
theorem flat_cell {ρ ρ' : Ren} {l : List Value} (hl : flatL l = true) {i : Nat} {v v' : Value} (h : l[i]? = some v) (hv : VRel ρ v v') : VRel ρ' v v' := by
  have hf : flat1 v = true := by
    clear hv
    induction l generalizing i with
    | nil => cases h
    | cons x l ih =>
      simp only [flatL, andB_eq] at hl
      cases i with
      | zero => cases h; exact hl.1
      | succ i => exact ih hl.2 h
  rw [flat1_eq hf hv]; exact flat1_rel _ hf

theorem Sum1.sound {P : Program} {call : CallF} (hc : CallOk P call) {b : Nat} (hb : P.globals.size ≤ b) {e : Sum1} (hok : e.Ok P call b) (hfl : flatL e.args = true) {s : St} {c : COut} (hu : e.use b s = some c) :
    StLe s c.s ∧ ∀ ρ w args', Rel P ρ (rdS s) w → Fresh ρ s.n c.s.n → LRel ρ e.args args' → EOk P ρ s w c ((callFunc e.f ⟨args'⟩).run P w) := by
  obtain ⟨hrun, hpre, hb0, habove⟩ := hok
  have hb0 : 1 ≤ b := Nat.le_of_ble_eq_true hb0
  have hpi := preOk_inv hpre
  unfold pick1 at hrun
  split at hrun
  · rename_i v1 s1 hcall
    split at hrun
    · rename_i l1 hst hl1
      have hok := Option.some.inj hrun
      have e1 : v1 = e.v := congrArg (·.1) hok
      have e2 : l1 = e.objs := congrArg (·.2.1) hok
      have e3 : s1.n = e.n := congrArg (·.2.2) hok
      subst e1
      subst e2
      unfold Sum1.use at hu
      split at hu
      · rename_i hbn hbe hchk
        have hbn : b ≤ s.n := Nat.le_of_ble_eq_true hbn
        have hbe : b ≤ e.n := Nat.le_of_ble_eq_true hbe
        have hci := chkPre_inv hchk
        split at hu
        · rename_i h' hlay
          cases hu
          obtain ⟨a1, a2⟩ := hc _ _ _ _ hcall
          simp only at a1 a2
          have hget := layAll_get _ _ _ hlay
          have hsh : ∀ a, b ≤ a → shN' b s.n a = a - b + s.n := by
            intro a ha
            unfold shN'
            rw [Nat.ble_eq_true_of_le ha]; rfl
          have hsh0 : ∀ a, a < b → shN' b s.n a = a := by
            intro a ha
            unfold shN'
            have : Nat.ble b a = false := by rw [← Bool.not_eq_true, Nat.ble_eq]; omega
            rw [this]
          have hN : (Nat.add s.n (Nat.sub e.n b)) = s.n + (e.n - b) := rfl
          -- the rows, behind the run
          have hpre1 : ∀ p ∈ e.pre, rdS s1 p.a = some (.row (rowOf p.l) (List.length p.l) p.ty false false) := by
            intro p hp
            obtain ⟨o, ho⟩ := stayed_inv hst p hp
            have h1 := a1.old p.a 0 o ho (by show 0 < b; omega)
            have h2 := (hpi p hp).2.2 .leaf
            have h1 : (layPre e.pre .leaf).get p.a = some (0, o) := h1
            rw [h2] at h1
            have h3 := Option.some.inj h1
            have h4 : AObj.row (rowOf p.l) (List.length p.l) p.ty false false = o := congrArg (·.2) h3
            unfold rdS; rw [ho, h4]
          have hh0 : ∀ a o, rdS ⟨layPre e.pre .leaf, b⟩ a = some o → ∃ p ∈ e.pre, p.a = a ∧ o = .row (rowOf p.l) (List.length p.l) p.ty false false := by
            intro a o h
            unfold rdS at h
            split at h
            · rename_i k o' heq
              cases h
              rcases layPre_get _ _ _ _ heq with h1 | ⟨p, h1, h2, h3⟩
              · rw [Tri.get_leaf] at h1; cases h1
              · cases h3; exact ⟨p, h1, h2, rfl⟩
            · cases h
          refine ⟨⟨by show s.n ≤ s.n + _; omega, fun x k o hx hk => ?_, fun x y hx hn => ?_⟩, fun ρ w args' hR hF ha => ?_⟩
          · rcases hget x k o hx with h1 | ⟨h1, _⟩
            · exact h1
            · omega
          · obtain ⟨k, o⟩ := y
            rcases hget x k o hx with h1 | ⟨h1, a, oa, hm, hba, hxa, _⟩
            · exact ⟨_, h1⟩
            · exfalso
              have hn : s.n + (e.n - b) ≤ x := hn
              rw [hsh a hba] at hxa
              have hro := getAll_mem hl1 a oa hm
              have : a < e.n := by
                rcases Nat.lt_or_ge a s1.n with h | h
                · omega
                · unfold rdS at hro
                  split at hro
                  · rename_i k' o' heq
                    obtain ⟨y, hy⟩ := a1.dom a _ heq h
                    rcases layPre_get _ _ _ _ hy with h1 | ⟨p, h1, h2, h3⟩
                    · rw [Tri.get_leaf] at h1; cases h1
                    · have := (hpi p h1).1; omega
                  · cases hro
              omega
          · -- what is known of the rows at the state
            have hpw : ∀ p ∈ e.pre, ∃ l ob cs, ρ p.a = some l ∧ w.heap[l.b]? = some ob ∧ rdS s p.a = some (.row cs (List.length p.l) p.ty false false) ∧ ObjRel P ρ l (.row cs (List.length p.l) p.ty false false) ob ∧ ∀ i, i < p.l.length → cs.get i = p.l[i]? := by
              intro p hp
              obtain ⟨cs, h1, h2⟩ := hci p hp
              obtain ⟨l, ob, q1, q2, q3⟩ := hR.obj _ _ h1
              exact ⟨l, ob, cs, q1, q2, h1, q3, h2⟩
            have hρ0 : ∀ a, a < b → (fun a => if a < b then ρ a else none) a = ρ a := fun a h => if_pos h
            have hR0 : Rel P (fun a => if a < b then ρ a else none) (rdS ⟨layPre e.pre .leaf, b⟩) w := by
              refine ⟨fun a o h => ?_, fun a a' o o' l l' h h1 h2 h3 hne => ?_, fun g hg => ?_⟩
              · obtain ⟨p, hp, rfl, rfl⟩ := hh0 a o h
                obtain ⟨l, ob, cs, q1, q2, q3, q4, q5⟩ := hpw p hp
                refine ⟨l, ob, by show (if p.a < b then ρ p.a else none) = some l; rw [if_pos (hpi p hp).1]; exact q1, q2, ?_⟩
                obtain ⟨cc, fr, f0, f1, f2⟩ := q4
                refine ⟨cc, fr, f0, fun i hi => ?_, f2⟩
                obtain ⟨v, v', g1, g2, g3⟩ := f1 i hi
                have hli : p.l[i]? = some v := by rw [← q5 i hi]; exact g1
                exact ⟨v, v', by rw [rowOf_get]; exact hli, g2, flat_cell (hpi p hp).2.1 hli g3⟩
              · obtain ⟨p, hp, rfl, _⟩ := hh0 a o h
                obtain ⟨q, hq, rfl, _⟩ := hh0 a' o' h1
                obtain ⟨_, _, _, _, _, p3, _⟩ := hpw p hp
                obtain ⟨_, _, _, _, _, q3, _⟩ := hpw q hq
                have h2 : (if p.a < b then ρ p.a else none) = some l := h2
                have h3 : (if q.a < b then ρ q.a else none) = some l' := h3
                rw [if_pos (hpi p hp).1] at h2
                rw [if_pos (hpi q hq).1] at h3
                exact hR.inj _ _ _ _ l l' p3 q3 h2 h3 hne
              · rw [if_pos (by omega)]; exact hR.glob g hg
            have hF0 : Fresh (fun a => if a < b then ρ a else none) b s1.n := by
              intro a h1 _
              exact if_neg (by omega)
            have hargs : LRel (fun a => if a < b then ρ a else none) e.args args' := by
              rw [flatL_eq hfl ha]; exact flatL_rel _ hfl
            refine EOk.imp (a2 _ w args' hR0 hF0 hargs) fun en w' hp => ?_
            obtain ⟨ρ1, x1, x2, x3⟩ := hp
            simp only at x1 x2 x3
            have hnew : ∀ a l, ρ1 a = some l → (a < b ∧ ρ a = some l) ∨ (b ≤ a ∧ a < e.n) := by
              intro a l h
              rcases x1.new a l h with h | h
              · have h : (if a < b then ρ a else none) = some l := h
                split at h
                · exact .inl ⟨by assumption, h⟩
                · cases h
              · exact .inr ⟨h.1, by omega⟩
            have hρ' : ∀ a l, ρ1 a = some l → (renS b s.n (s.n + (e.n - b)) ρ ρ1) (shN' b s.n a) = some l := by
              intro a l h
              rcases hnew a l h with ⟨h1, h2⟩ | ⟨h1, h2⟩
              · rw [hsh0 a h1, renS_out (by omega)]; exact h2
              · rw [hsh a h1, renS_in (by omega)]
                have : a - b + s.n - s.n + b = a := by omega
                rw [this]; exact h
            have hle : ρ.le (renS b s.n (s.n + (e.n - b)) ρ ρ1) := by
              intro a l h
              rw [renS_out]
              · exact h
              · intro hx
                have := hF a hx.1 hx.2
                rw [this] at h; cases h
            -- blocks that are none of the rows stand as they stood
            have hold : ∀ k, k < w.heap.size → (∀ p ∈ e.pre, ∀ l, ρ p.a = some l → l.b ≠ k) → w'.heap[k]? = w.heap[k]? := fun k hk hn => x1.frame k hk fun a o l h hl => by
              obtain ⟨p, hp, rfl, _⟩ := hh0 a o h
              have hl : (if p.a < b then ρ p.a else none) = some l := hl
              rw [if_pos (hpi p hp).1] at hl
              exact hn p hp l hl
            have hblk : ∀ a o l, rdS s a = some o → ρ a = some l → l.b < w.heap.size := by
              intro a o l h1 h2
              obtain ⟨l', ob, q1, q2, _⟩ := hR.obj a o h1
              rw [h2] at q1; cases q1
              rcases Nat.lt_or_ge l.b w.heap.size with h | h
              · exact h
              · rw [Array.getElem?_eq_none h] at q2; cases q2
            -- a name of the run's own lies in a block of its own
            have hown : ∀ a o l, b ≤ a → rdS s1 a = some o → ρ1 a = some l → w.heap.size ≤ l.b := by
              intro a o l hba h1 h2
              rcases x1.own a o l h1 h2 with h | ⟨a0, o0, l0, h3, h4, h5⟩
              · exact h
              · exfalso
                obtain ⟨p, hp, rfl, _⟩ := hh0 a0 o0 h3
                have h6 := x1.le _ _ h4
                exact x2.inj a p.a o _ l l0 h1 (hpre1 p hp) h2 h6 (by have := (hpi p hp).1; omega) h5.symm
            -- what stood at the state stands
            have hstay : ∀ a o l ob, rdS s a = some o → ρ a = some l → w.heap[l.b]? = some ob → ObjRel P ρ l o ob → ∃ ob', w'.heap[l.b]? = some ob' ∧ ObjRel P (renS b s.n (s.n + (e.n - b)) ρ ρ1) l o ob' := by
              intro a o l ob h1 h2 h3 h4
              by_cases hp : ∃ p ∈ e.pre, p.a = a
              · obtain ⟨p, hp, rfl⟩ := hp
                obtain ⟨l0, ob0, cs, q1, q2, q3, q4, q5⟩ := hpw p hp
                rw [h2] at q1; cases q1
                rw [q3] at h1; cases h1
                obtain ⟨l1, ob1, r1, r2, r3⟩ := x2.obj _ _ (hpre1 p hp)
                have h6 : ρ1 p.a = some l := x1.le _ _ (by show (if p.a < b then ρ p.a else none) = some l; rw [if_pos (hpi p hp).1]; exact h2)
                rw [h6] at r1; cases r1
                refine ⟨ob1, r2, ?_⟩
                obtain ⟨cc, fr, f0, f1, f2⟩ := r3
                refine ⟨cc, fr, f0, fun i hi => ?_, f2⟩
                obtain ⟨v, v', g1, g2, g3⟩ := f1 i hi
                rw [rowOf_get] at g1
                exact ⟨v, v', by rw [q5 i hi]; exact g1, g2, flat_cell (hpi p hp).2.1 g1 g3⟩
              · refine ⟨ob, ?_, h4.mono hle⟩
                rw [hold l.b (hblk a o l h1 h2)]
                · exact h3
                · intro p hpm lp hlp
                  obtain ⟨_, _, _, _, _, q3, _⟩ := hpw p hpm
                  exact hR.inj p.a a _ o lp l q3 h1 hlp h2 (fun e => hp ⟨p, hpm, e⟩)
            have hstt : ∀ a o, rdS ⟨h', s.n + (e.n - b)⟩ a = some o → (rdS s a = some o ∧ ∀ l, ρ a = some l → (renS b s.n (s.n + (e.n - b)) ρ ρ1) a = some l) ∨
                ∃ a1 oa l, a = shN' b s.n a1 ∧ rdS s1 a1 = some oa ∧ ρ1 a1 = some l ∧ shO b s.n oa = some o ∧ w.heap.size ≤ l.b ∧ (renS b s.n (s.n + (e.n - b)) ρ ρ1) a = some l := by
              intro a o h
              unfold rdS at h
              split at h
              · rename_i k o' heq
                cases h
                rcases hget a k o heq with h1 | ⟨_, a1, oa, hm, hba, hxa, hso⟩
                · exact .inl ⟨by unfold rdS; rw [h1], fun l hl => hle a l hl⟩
                · have hro := getAll_mem hl1 a1 oa hm
                  obtain ⟨l, ob, q1, q2, q3⟩ := x2.obj a1 oa hro
                  exact .inr ⟨a1, oa, l, hxa, hro, q1, hso, hown a1 oa l hba hro q1, by rw [hxa]; exact hρ' a1 l q1⟩
              · cases h
            refine ⟨renS b s.n (s.n + (e.n - b)) ρ ρ1, ?_, ?_, ?_⟩
            · refine ⟨hle, fun a l h => ?_, x1.size, x1.os, x1.tape, x1.output, fun a o l h1 h2 => ?_, fun k hk hn => hold k hk fun p hp l hl => ?_⟩
              · by_cases hx : s.n ≤ a ∧ a < s.n + (e.n - b)
                · exact .inr hx
                · rw [renS_out hx] at h; exact .inl h
              · rcases hstt a o h1 with ⟨g1, g2⟩ | ⟨a1, oa, l', g1, g2, g3, g4, g5, g6⟩
                · obtain ⟨l0, ob, q1, _⟩ := hR.obj a o g1
                  have := g2 l0 q1
                  rw [h2] at this; cases this
                  exact .inr ⟨a, o, l, g1, q1, rfl⟩
                · rw [h2] at g6; cases g6; exact .inl g5
              · obtain ⟨_, _, _, _, _, q3, _⟩ := hpw p hp
                exact hn p.a _ l q3 hl
            · refine ⟨fun a o h => ?_, fun a b' o o' l l' h1 h2 h3 h4 hne => ?_, fun g hg => hle _ _ (hR.glob g hg)⟩
              · rcases hstt a o h with ⟨g1, g2⟩ | ⟨a1, oa, l', g1, g2, g3, g4, g5, g6⟩
                · obtain ⟨l0, ob, q1, q2, q3⟩ := hR.obj a o g1
                  obtain ⟨ob', r1, r2⟩ := hstay a o l0 ob g1 q1 q2 q3
                  exact ⟨l0, ob', g2 l0 q1, r1, r2⟩
                · obtain ⟨l0, ob, q1, q2, q3⟩ := x2.obj a1 oa g2
                  rw [g3] at q1; cases q1
                  exact ⟨l', ob, g6, q2, shO_rel hρ' q3 g4⟩
              · rcases hstt a o h1 with ⟨g1, g2⟩ | ⟨a1, oa, la, g1, g2, g3, g4, g5, g6⟩
                · obtain ⟨l0, _, q1, _⟩ := hR.obj a o g1
                  have e0 := g2 l0 q1
                  rw [h3] at e0; cases e0
                  rcases hstt b' o' h2 with ⟨f1, f2⟩ | ⟨b1, ob1, lb, f1, f2, f3, f4, f5, f6⟩
                  · obtain ⟨l1, _, p1, _⟩ := hR.obj b' o' f1
                    have e1 := f2 l1 p1
                    rw [h4] at e1; cases e1
                    exact hR.inj a b' o o' l l' g1 f1 q1 p1 hne
                  · rw [h4] at f6; cases f6
                    have := hblk a o l g1 q1
                    omega
                · rw [h3] at g6; cases g6
                  rcases hstt b' o' h2 with ⟨f1, f2⟩ | ⟨b1, ob1, lb, f1, f2, f3, f4, f5, f6⟩
                  · obtain ⟨l1, _, p1, _⟩ := hR.obj b' o' f1
                    have e1 := f2 l1 p1
                    rw [h4] at e1; cases e1
                    have := hblk b' o' l' f1 p1
                    omega
                  · rw [h4] at f6; cases f6
                    exact x2.inj a1 b1 oa ob1 l l' g2 f2 g3 f3 (fun h => hne (by rw [g1, f1, h]))
            · cases en with
              | returned v' => exact shV_rel hρ' x3
              | panicked ch => exact x3.elim
              | outgrown => exact x3.elim
        · cases hu
      · cases hu
    · cases hrun
  · cases hrun
/-- What a list of calls tells. -/
noncomputable def sumFind1 (b : Nat) (args : List Value) (s : St) : List Sum1 → Option (Option COut)
  | [] => none
  | e :: l => match eqArgs args e.args with
    | true => some (e.use b s)
    | false => sumFind1 b args s l
/-- Calls that were computed once, ahead of what else is known. -/
noncomputable def sumSm1 (b : Nat) (tab : FuncId → List Sum1) (sm : Summ) : Summ := fun f args s => match sumFind1 b args s (tab f) with
  | some r => some r
  | none => sm f args s
theorem sumFind1_mem {b : Nat} {args : List Value} {s : St} {r : Option COut} : ∀ {l : List Sum1}, sumFind1 b args s l = some r → ∃ e ∈ l, e.args = args ∧ r = e.use b s := by
  intro l
  induction l with
  | nil => intro h; cases h
  | cons e l ih =>
    intro h
    simp only [sumFind1] at h
    split at h
    · rename_i he
      cases h
      exact ⟨e, List.mem_cons_self, (eqArgs_eq he).symm, rfl⟩
    · obtain ⟨e', h1, h2⟩ := ih h
      exact ⟨e', List.mem_cons_of_mem _ h1, h2⟩
theorem sumSm1_ok {P : Program} {call : CallF} (hc : CallOk P call) {b : Nat} (hb : P.globals.size ≤ b) {tab : FuncId → List Sum1} {sm : Summ} (hs : SummOk P sm) (h : ∀ f, ∀ e ∈ tab f, e.f = f ∧ e.Ok P call b ∧ flatL e.args = true) : SummOk P (sumSm1 b tab sm) := by
  intro f args s c hh
  unfold sumSm1 at hh
  split at hh
  · rename_i r hr
    cases hh
    obtain ⟨e, h1, h2, h3⟩ := sumFind1_mem hr
    obtain ⟨h4, h5, h6⟩ := h f e h1
    subst h2; subst h4
    exact Sum1.sound hc hb h5 h6 h3.symm
  · exact hs f args s c hh
end Go.Ev

/- What the evaluator computes, as a contract of a call. -/
namespace Go.Ev
open Go.RowKit

/-- The known rows stand in memory. -/
def GlobOk (pre : List PRow) (w : World) : Prop := ∀ p ∈ pre, w.heap[p.a]? = some (.cells ⟨p.l⟩ p.ty (0, 0))
/-- What names stand for lies from a block on, but for the known rows. -/
def Own (B : Nat) (pre : List PRow) (ρ : Ren) (s : St) : Prop := ∀ a o l, rdS s a = some o → ρ a = some l → (∃ p ∈ pre, p.a = a) ∨ B ≤ l.b
/-- Where a run stands. -/
structure At (P : Program) (B : Nat) (pre : List PRow) (ρ : Ren) (s : St) (w : World) : Prop where
  rel : Rel P ρ (rdS s) w
  free : ∀ a, s.n ≤ a → ρ a = none
  own : Own B pre ρ s
  size : B ≤ w.heap.size
  glob : GlobOk pre w
  rows : ∀ p ∈ pre, s.h.get p.a = some (0, .row (rowOf p.l) (List.length p.l) p.ty false false)
  names : ∀ p ∈ pre, p.a < P.globals.size ∧ flatL p.l = true
  pos : 0 < s.n

theorem flat_get {l : List Value} (hl : flatL l = true) {i : Nat} {v : Value} (h : l[i]? = some v) : flat1 v = true := by
  induction l generalizing i with
  | nil => cases h
  | cons x l ih =>
    simp only [flatL, andB_eq] at hl
    cases i with
    | zero => cases h; exact hl.1
    | succ i => exact ih hl.2 h
theorem run_from {P : Program} {call : CallF} (hc : CallOk P call) {B : Nat} {pre : List PRow} {ρ : Ren} {s s' : St} {w : World} {f : FuncId} {fn : Func} {args args' : List Value} {v : Value} (hat : At P B pre ρ s w)
    (hrun : call (.fn f) args s = some ⟨.ret v, s'⟩) (hst : stayed s' pre = true) (hfn : P.funcs[f]? = some fn) (hname : (fn.name == "runtime.NumGoroutine") = false) (hbody : fn.body.isNone = false) (ha : LRel ρ args args') :
    Calls P f ⟨args'⟩ w fun e w' => ∃ v' ρ', e = .returned v' ∧ VRel ρ' v v' ∧ ρ.le ρ' ∧ At P B pre ρ' s' w' ∧ Below B w w' := by
  obtain ⟨a1, a2⟩ := hc _ _ _ _ hrun
  simp only at a1 a2
  have h0 := a2 ρ w args' hat.rel (fun a h1 _ => hat.free a h1) ha
  have h1 : fn.name ≠ "runtime.NumGoroutine" := by simpa using hname
  have hr : (callFunc f ⟨args'⟩).run P w = .ok (.enter f ⟨args'⟩) w := by
    have h2 : fn.body ≠ none := by intro e; rw [e] at hbody; cases hbody
    simp [callFunc, hfn, h1, h2]
  rw [hr] at h0
  have h0 : CallsIn Fence.wide 0 P f ⟨args'⟩ w (Post P ρ s w ⟨.ret v, s'⟩) := h0
  refine (callsIn_wide.1 h0).mono fun e w' hp => ?_
  obtain ⟨ρ1, x1, x2, x3⟩ := hp
  simp only at x1 x2 x3
  have hrow : ∀ p ∈ pre, s'.h.get p.a = some (0, .row (rowOf p.l) (List.length p.l) p.ty false false) := by
    intro p hp
    obtain ⟨o, ho⟩ := stayed_inv hst p hp
    have h2 := a1.old p.a 0 o ho hat.pos
    rw [hat.rows p hp] at h2
    rw [ho, h2]
  have hrd : ∀ p ∈ pre, rdS s' p.a = some (.row (rowOf p.l) (List.length p.l) p.ty false false) := by
    intro p hp; unfold rdS; rw [hrow p hp]
  have hrd0 : ∀ p ∈ pre, rdS s p.a = some (.row (rowOf p.l) (List.length p.l) p.ty false false) := by
    intro p hp; unfold rdS; rw [hat.rows p hp]
  have hρ1 : ∀ p ∈ pre, ρ1 p.a = some ⟨p.a, 0, 0, 0⟩ := fun p hp => x1.le _ _ (hat.rel.glob _ (hat.names p hp).1)
  have hglob : GlobOk pre w' := by
    intro p hp
    obtain ⟨l, ob, q1, q2, q3⟩ := x2.obj _ _ (hrd p hp)
    rw [hρ1 p hp] at q1; cases q1
    obtain ⟨c, fr, f0, f1, _, f3, f4, _⟩ := q3
    have hs := (f4 rfl).2
    have hfr := f3 rfl
    subst hfr
    rw [q2, f0]
    congr 2
    apply Array.ext'
    apply List.ext_getElem?
    intro i
    by_cases hi : i < p.l.length
    · obtain ⟨x, x', g1, g2, g3⟩ := f1 i hi
      rw [rowOf_get] at g1
      have := flat1_eq (flat_get (hat.names p hp).2 g1) g3
      subst this
      rw [Nat.zero_add] at g2
      rw [← Array.getElem?_toList] at g2
      rw [g2, g1]
    · have hl : c.toList.length = p.l.length := by simpa using hs
      rw [List.getElem?_eq_none (by omega)]
      show none = p.l[i]?
      rw [List.getElem?_eq_none (by omega)]
  have hown : Own B pre ρ1 s' := by
    intro a o l h2 h3
    by_cases hp : ∃ p ∈ pre, p.a = a
    · exact .inl hp
    · right
      rcases x1.own a o l h2 h3 with h4 | ⟨a0, o0, l0, h4, h5, h6⟩
      · exact Nat.le_trans hat.size h4
      · rcases hat.own a0 o0 l0 h4 h5 with ⟨p, hpm, rfl⟩ | h7
        · exfalso
          exact x2.inj a p.a o _ l l0 h2 (hrd p hpm) h3 (x1.le _ _ h5) (fun e => hp ⟨p, hpm, e.symm⟩) h6.symm
        · omega
  have hen : ∃ v', e = .returned v' ∧ VRel ρ1 v v' := by
    cases e with
    | returned v' => exact ⟨v', rfl, x3⟩
    | panicked c => exact x3.elim
    | outgrown => exact x3.elim
  obtain ⟨v', rfl, hv⟩ := hen
  refine ⟨v', ρ1, rfl, hv, x1.le, ⟨x2, fun a h2 => ?_, hown, Nat.le_trans hat.size x1.size, hglob, hrow, hat.names, Nat.lt_of_lt_of_le hat.pos a1.n⟩, ⟨x1.os, x1.tape, x1.output, x1.size, fun k hk => ?_⟩⟩
  · cases h3 : ρ1 a with
    | none => rfl
    | some l =>
      rcases x1.new a l h3 with h4 | h4
      · rw [hat.free a (Nat.le_trans a1.n h2)] at h4; cases h4
      · omega
  · by_cases hp : ∃ p ∈ pre, p.a = k
    · obtain ⟨p, hpm, rfl⟩ := hp
      rw [hglob p hpm, hat.glob p hpm]
    · refine x1.frame k (Nat.lt_of_lt_of_le hk hat.size) fun a o l h2 h3 e => ?_
      rcases hat.own a o l h2 h3 with ⟨p, hpm, rfl⟩ | h7
      · have := hat.rel.glob _ (hat.names p hpm).1
        rw [h3] at this; cases this
        exact hp ⟨p, hpm, e⟩
      · omega

/-- The names of the package's variables, and some more. -/
def gnames (b : Nat) (more : List Loc) : Ren := fun a => if a < b then some ⟨a, 0, 0, 0⟩ else more[a - b]?
theorem gnames_le (b : Nat) (more : List Loc) (i : Nat) (l : Loc) (h : more[i]? = some l) : gnames b more (b + i) = some l := by
  unfold gnames; rw [if_neg (by omega), show b + i - b = i by omega]; exact h
/-- A start: the known rows alone; some names more that stand for nothing that is read. -/
theorem At.start {P : Program} {pre : List PRow} {b : Nat} (hb : P.globals.size = b) (h0 : 0 < b) (hpre : preOk b pre = true) (more : List Loc) {w : World} (hg : GlobOk pre w) :
    At P w.heap.size pre (gnames b more) ⟨layPre pre .leaf, b + more.length⟩ w := by
  have hpi := preOk_inv hpre
  have hh : ∀ a o, rdS ⟨layPre pre .leaf, b + more.length⟩ a = some o → ∃ p ∈ pre, p.a = a ∧ o = .row (rowOf p.l) (List.length p.l) p.ty false false := by
    intro a o h
    unfold rdS at h
    split at h
    · rename_i k o' heq
      cases h
      rcases layPre_get _ _ _ _ heq with h1 | ⟨p, h1, h2, h3⟩
      · rw [Tri.get_leaf] at h1; cases h1
      · cases h3; exact ⟨p, h1, h2, rfl⟩
    · cases h
  have hgl : ∀ a, a < b → gnames b more a = some ⟨a, 0, 0, 0⟩ := fun a h => by unfold gnames; rw [if_pos h]
  refine ⟨⟨fun a o h => ?_, fun a a' o o' l l' h h1 h2 h3 hne => ?_, fun g hg' => hgl g (by omega)⟩, fun a h => ?_, fun a o l h h1 => ?_, Nat.le_refl _, hg, fun p hp => (hpi p hp).2.2 .leaf, fun p hp => ⟨by have := (hpi p hp).1; omega, (hpi p hp).2.1⟩, by show 0 < b + _; omega⟩
  · obtain ⟨p, hp, rfl, rfl⟩ := hh a o h
    refine ⟨⟨p.a, 0, 0, 0⟩, _, hgl _ (hpi p hp).1, hg p hp, ⟨p.l⟩, (0, 0), rfl, fun i hi => ?_, fun i _ => by simp, fun _ => rfl, fun _ => ⟨rfl, by simp⟩, fun h => by cases h⟩
    have hi : i < p.l.length := hi
    refine ⟨p.l[i], p.l[i], by rw [rowOf_get, List.getElem?_eq_getElem hi], by simp [hi], flat1_rel _ (flat_get (hpi p hp).2.1 (List.getElem?_eq_getElem hi))⟩
  · obtain ⟨p, hp, rfl, _⟩ := hh a o h
    obtain ⟨q, hq, rfl, _⟩ := hh a' o' h1
    rw [hgl _ (hpi p hp).1] at h2; rw [hgl _ (hpi q hq).1] at h3
    cases h2; cases h3
    exact hne
  · have h : b + more.length ≤ a := h
    unfold gnames
    rw [if_neg (by omega), List.getElem?_eq_none (by omega)]
  · obtain ⟨p, hp, rfl, _⟩ := hh a o h
    exact .inl ⟨p, hp, rfl⟩
end Go.Ev

/- A call of which a contract is known, in the evaluator: the keys of a map that holds nothing. -/
namespace Go.Ev
open Go.RowKit

theorem Rel.below {P : Program} {ρ : Ren} {h : Hp} {w w' : World} (hR : Rel P ρ h w) (hb : Below w.heap.size w w') : Rel P ρ h w' := by
  refine ⟨fun a o ha => ?_, hR.inj, hR.glob⟩
  obtain ⟨l, ob, q1, q2, q3⟩ := hR.obj a o ha
  refine ⟨l, ob, q1, ?_, q3⟩
  rw [hb.block]
  · exact q2
  · rcases Nat.lt_or_ge l.b w.heap.size with h | h
    · exact h
    · rw [Array.getElem?_eq_none h] at q2; cases q2
theorem Post.below {P : Program} {ρ : Ren} {s : St} {w w' : World} {v v' : Value} (hR : Rel P ρ (rdS s) w) (hb : Below w.heap.size w w') (hv : VRel ρ v v') : Post P ρ s w ⟨.ret v, s⟩ (.returned v') w' :=
  ⟨ρ, ⟨.refl _, fun _ _ e => .inl e, hb.size, hb.os, hb.tape, hb.output, fun a o l e e' => .inr ⟨a, o, l, e, e', rfl⟩, fun k hk _ => hb.block k hk⟩, hR.below hb, hv⟩
noncomputable def keys0 (args : List Value) (s : St) : Bool := match args with
  | [_, .pointer (some ⟨a, 0, none⟩)] => match rdS s a with
    | some (.row cs (_ + 1) _ _ _) => match cs.get 0 with
      | some (.map (some r)) => match rdS s r with
        | some (.map [] _) => true
        | _ => false
      | _ => false
    | _ => false
  | _ => false
noncomputable def keysSm (f0 : FuncId) (sm : Summ) : Summ := fun f args s => match Nat.beq f f0 with
  | true => match keys0 args s with
    | true => some (some ⟨.ret (.tuple ⟨[]⟩), s⟩)
    | false => sm f args s
  | false => sm f args s
theorem keysSm_ok {P : Program} {f0 : FuncId} {fn : Func} {sm : Summ} (hs : SummOk P sm) (hfn : P.funcs[f0]? = some fn) (hname : (fn.name == "runtime.NumGoroutine") = false) (hbody : fn.body.isNone = false)
    (hk : ∀ (w : World) (y : Value) (a : Addr) (m c : Nat), w.cell? a = some (.map (some m)) → a.spot = none → w.heap[m]? = some (.map #[] c) → Calls P f0 #[y, .pointer (some a)] w fun e w' => e = .returned (.tuple #[]) ∧ Below w.heap.size w w') : SummOk P (keysSm f0 sm) := by
  intro f args s c h
  unfold keysSm at h
  split at h
  · rename_i hf
    have hf := Nat.eq_of_beq_eq_true hf
    subst hf
    split at h
    · rename_i hkeys
      cases h
      refine ⟨.refl _, fun ρ w args' hR hF ha => ?_⟩
      have h1 : fn.name ≠ "runtime.NumGoroutine" := by simpa using hname
      have h2 : fn.body ≠ none := by intro e; rw [e] at hbody; cases hbody
      have hr : (callFunc f ⟨args'⟩).run P w = .ok (.enter f ⟨args'⟩) w := by simp [callFunc, hfn, h1, h2]
      rw [hr]
      show CallsIn Fence.wide 0 P f ⟨args'⟩ w (Post P ρ s w _)
      refine callsIn_wide.2 ?_
      unfold keys0 at hkeys
      split at hkeys
      · rename_i y a
        split at hkeys
        · rename_i cs n e opn fz hrow
          split at hkeys
          · rename_i r hget
            split at hkeys
            · rename_i cl hmap
              obtain ⟨y', p', rfl, hy, hp⟩ := ha.inv2
              cases hp with
              | ptr _ _ l hl =>
                obtain ⟨l0, ob, q1, q2, q3⟩ := hR.obj _ _ hrow
                rw [hl] at q1; cases q1
                obtain ⟨cc, fr, f0, f1, _⟩ := q3
                obtain ⟨v, v', g1, g2, g3⟩ := f1 0 (by omega)
                rw [hget] at g1; cases g1
                cases g3 with
                | map _ lm hlm =>
                  obtain ⟨l1, om, r1, r2, r3⟩ := hR.obj _ _ hmap
                  rw [hlm] at r1; cases r1
                  obtain ⟨es', e1, e2⟩ := r3
                  cases e2
                  have hcell : w.cell? ⟨l.b, l.o + 0, none⟩ = some (.map (some lm.b)) := by
                    unfold World.cell?
                    simp only [q2, f0]
                    exact g2
                  exact (hk w y' ⟨l.b, l.o + 0, none⟩ lm.b cl hcell rfl (by rw [r2, e1])).mono fun e w' he => by
                    obtain ⟨rfl, hb⟩ := he
                    exact Post.below hR hb (.tuple [] [] .nil)
            · cases hkeys
          · cases hkeys
        · cases hkeys
      · cases hkeys
    · exact hs f args s c h
  · exact hs f args s c h
end Go.Ev
