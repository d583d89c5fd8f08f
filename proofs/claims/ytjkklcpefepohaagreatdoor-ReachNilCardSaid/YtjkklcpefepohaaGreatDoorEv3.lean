/- The other operations that turn nothing. -/
import Derived.Test.YtjkklcpefepohaaGreatDoorEv2
set_option linter.unusedVariables false
set_option linter.unusedSimpArgs false
namespace Go.Ev
section
variable {P : Program} {ρ : Ren} {h : Hp} {w : World} {ev : Operand → Option Value} {ev' : Operand → Value} {rd : Rd} {o : Oper} {po : PO}

theorem p_load {t : TypeId} {a : Operand} (hR : Rel P ρ h w) (hrd : ∀ a o, rd a = some o → h a = some o) (hop : o.op = .load t a) (hp : pureOp P ev rd o = some po)
    (ha : ∀ v, ev a = some v → VRel ρ v (ev' a)) : POk P ρ w po ((execOp ev' o).run P w) := by
  simp only [pureOp, hop] at hp
  simp only [execOp, hop]
  apply POk.ofSem
  split at hp
  · rename_i a0 k hea hk
    split at hp
    · rename_i v hl
      cases hp
      have hv := ha _ hea
      have : ∃ a1, ev' a = .pointer (some a1) := by
        generalize ev' a = x at hv
        cases hv; exact ⟨_, rfl⟩
      obtain ⟨a1, e1⟩ := this
      rw [e1] at hv
      obtain ⟨v', g1, g2⟩ := loadA_sound hR hrd hl hk hv
      exact ⟨v, v', rfl, by simp [Instr.loadAt, Instr.sureAddr, e1, g1], g2⟩
    · cases hp
  · cases hp
theorem p_nilCheck {x : Operand} (hop : o.op = .nilCheck x) (hp : pureOp P ev rd o = some po)
    (hx : ∀ v, ev x = some v → VRel ρ v (ev' x)) : POk P ρ w po ((execOp ev' o).run P w) := by
  simp only [pureOp, hop] at hp
  simp only [execOp, hop]
  split at hp
  · rename_i a0 he
    cases hp
    have hv := hx _ he
    generalize ev' x = y at hv ⊢
    cases hv with
    | ptr a o l e => exact ⟨_, rfl, .ptr a o l e⟩
  · rename_i f a b he
    cases hp
    have hv := hx _ he
    generalize ev' x = y at hv ⊢
    cases hv with
    | fn f xs ys xs' ys' e e' => exact ⟨_, rfl, .fn f xs ys xs' ys' e e'⟩
  · cases hp
theorem p_binOp {op : BinOp} {t t' : TypeId} {x y : Operand} (hR : Rel P ρ h w) (hrd : ∀ a o, rd a = some o → h a = some o) (hop : o.op = .binOp op t x y t') (hp : pureOp P ev rd o = some po)
    (hx : ∀ v, ev x = some v → VRel ρ v (ev' x)) (hy : ∀ v, ev y = some v → VRel ρ v (ev' y)) : POk P ρ w po ((execOp ev' o).run P w) := by
  simp only [pureOp, hop] at hp
  simp only [execOp, hop]
  split at hp
  · rename_i a b ha hb
    split at hp
    · rename_i v hv
      cases hp
      obtain ⟨v', g1, g2⟩ := binF_sound hR hrd (hx _ ha) (hy _ hb) hv
      apply POk.ofSem
      exact ⟨v, v', rfl, g1, g2⟩
    · cases hp
  · cases hp
theorem p_unOp {op : UnOp} {t : TypeId} {x : Operand} (hop : o.op = .unOp op t x) (hp : pureOp P ev rd o = some po)
    (hx : ∀ v, ev x = some v → VRel ρ v (ev' x)) : POk P ρ w po ((execOp ev' o).run P w) := by
  simp only [pureOp, hop] at hp
  simp only [execOp, hop]
  apply POk.ofSem
  split at hp
  · rename_i b he
    cases hp
    rw [bool_rel (hx _ he)]
    exact ⟨_, .bool (!b), rfl, by simp [Op.unary], by rw [notB_eq]; exact .bool _⟩
  · rename_i k n he
    cases hp
    rw [int_rel (hx _ he)]
    refine ⟨_, .int k (k.wrap (0 - n)), rfl, by simp [Op.unary, Op.intArith], ?_⟩
    rw [wrapF_eq, show Int.neg n = 0 - n from by rw [Int.zero_sub]; rfl]
    exact .int _ _
  · cases hp
theorem p_makeInterface {t : TypeId} {x : Operand} (hop : o.op = .makeInterface t x) (hp : pureOp P ev rd o = some po)
    (hx : ∀ v, ev x = some v → VRel ρ v (ev' x)) : POk P ρ w po ((execOp ev' o).run P w) := by
  simp only [pureOp, hop] at hp
  simp only [execOp, hop]
  apply POk.ofSem
  split at hp
  · cases hp
  · rename_i d v hni hu he
    cases hp
    refine ⟨_, .iface t (ev' x), rfl, ?_, .iface _ _ _ (hx _ he)⟩
    cases d <;> simp only [Instr.makeInterface, Sem.run_bind, run_und hu, Result.andThen_ok]
    all_goals first | rfl | (exact (hni _ rfl).elim)
  · cases hp
theorem opvs_rel : ∀ (xs : List Operand) (vs : List Value), (∀ x ∈ xs, ∀ v, ev x = some v → VRel ρ v (ev' x)) → opvs ev xs = some vs → LRel ρ vs (xs.map ev') := by
  intro xs
  induction xs with
  | nil => intro vs _ he; simp [opvs] at he; subst he; exact .nil
  | cons x xs ih =>
    intro vs hx he
    simp only [opvs] at he
    split at he
    · cases he
    · rename_i v hv
      split at he
      · cases he
      · rename_i vs' hvs
        cases he
        exact .cons _ _ _ _ (hx x (by simp) v hv) (ih vs' (fun y hy => hx y (by simp [hy])) hvs)
theorem p_makeFunc {fn : Fn} {a b : Array Operand} (hop : o.op = .makeFunc fn a b) (hp : pureOp P ev rd o = some po)
    (hx : ∀ x, x ∈ a.toList ∨ x ∈ b.toList → ∀ v, ev x = some v → VRel ρ v (ev' x)) : POk P ρ w po ((execOp ev' o).run P w) := by
  simp only [pureOp, hop] at hp
  simp only [execOp, hop]
  apply POk.ofSem
  split at hp
  · rename_i f
    split at hp
    · rename_i l1 l2 h1 h2
      cases hp
      have g1 := opvs_rel (ρ := ρ) (ev' := ev') _ _ (fun x hx' => hx x (.inl hx')) h1
      have g2 := opvs_rel (ρ := ρ) (ev' := ev') _ _ (fun x hx' => hx x (.inr hx')) h2
      refine ⟨_, .func (.func f) (a.map ev') (b.map ev'), rfl, by simp [Instr.makeFunc], ?_⟩
      have e1 : a.map ev' = ⟨a.toList.map ev'⟩ := by apply Array.ext'; simp
      have e2 : b.map ev' = ⟨b.toList.map ev'⟩ := by apply Array.ext'; simp
      rw [e1, e2]
      exact .fn _ _ _ _ _ g1 g2
    · cases hp
  · cases hp
theorem p_extract {x : Operand} {i : Nat} (hop : o.op = .extract x i) (hp : pureOp P ev rd o = some po)
    (hx : ∀ v, ev x = some v → VRel ρ v (ev' x)) : POk P ρ w po ((execOp ev' o).run P w) := by
  simp only [pureOp, hop] at hp
  simp only [execOp, hop]
  apply POk.ofSem
  split at hp
  · rename_i vs he
    split at hp
    · rename_i v hv
      cases hp
      have hr := hx _ he
      generalize ev' x = y at hr ⊢
      cases hr with
      | tuple xs xs' hl =>
        rw [nth_eq] at hv
        obtain ⟨v', e1, e2⟩ := hl.get _ _ hv
        exact ⟨v, v', rfl, by simp [Instr.extract, e1], e2⟩
    · cases hp
  · cases hp
theorem p_fieldAddr {t : TypeId} {x : Operand} {f : Nat} (hop : o.op = .fieldAddr t x f) (hp : pureOp P ev rd o = some po)
    (hx : ∀ v, ev x = some v → VRel ρ v (ev' x)) : POk P ρ w po ((execOp ev' o).run P w) := by
  simp only [pureOp, hop] at hp
  simp only [execOp, hop]
  apply POk.ofSem
  split at hp
  · rename_i fs a hu he
    split at hp
    · rename_i fd hfd
      rw [nth_eq] at hfd
      split at hp
      · rename_i n hs
        have hr := hx _ he
        generalize ev' x = y at hr ⊢
        cases hr with
        | ptr a o l e =>
          have hfs : fs[f]? = some fd := by simpa using hfd
          refine ⟨.pointer (some ⟨a, o + fd.offset, none⟩), .pointer (some ⟨l.b, l.o + o + fd.offset, none⟩), ?_, ?_, ?_⟩
          · split at hp
            · rename_i h0; cases hp; rw [h0]; rfl
            · cases hp; rfl
          · simp [Instr.fieldAt, run_und hu, hfs, Instr.sureAddr, fieldPlace, run_size hs, add_none]
          · rw [Nat.add_assoc]; exact .ptr a _ l e
      · cases hp
    · cases hp
  · cases hp
theorem p_field {t : TypeId} {x : Operand} {f : Nat} (hop : o.op = .field t x f) (hp : pureOp P ev rd o = some po)
    (hx : ∀ v, ev x = some v → VRel ρ v (ev' x)) : POk P ρ w po ((execOp ev' o).run P w) := by
  simp only [pureOp, hop] at hp
  simp only [execOp, hop]
  apply POk.ofSem
  split at hp
  · rename_i fs cs hu he
    split at hp
    · rename_i fd hfd
      rw [nth_eq] at hfd
      split at hp
      · rename_i v hv
        cases hp
        have hr := hx _ he
        generalize ev' x = y at hr ⊢
        cases hr with
        | agg xs xs' hl =>
          have hfs : fs[f]? = some fd := by simpa using hfd
          obtain ⟨v', g1, g2⟩ := part_sound (w := w) (cs' := ⟨xs'⟩) hv hl
          exact ⟨v, v', rfl, by simp [Instr.field, run_und hu, hfs, asAgg, g1], g2⟩
      · cases hp
    · cases hp
  · cases hp
theorem p_makeMap {t : TypeId} {r : Option Operand} (hop : o.op = .makeMap t r) (hp : pureOp P ev rd o = some po) (hr : ∀ x, r = some x → ∀ v, ev x = some v → VRel ρ v (ev' x)) : POk P ρ w po ((execOp ev' o).run P w) := by
  simp only [pureOp, hop] at hp
  simp only [execOp, hop]
  have key : ∀ s : Sem Value, s.run P w = .ok (.map (some w.heap.size)) (w.alloc (.map #[] 0)) → POk P ρ w (.new (.map [] 0) .map) ((s >>= fun v => pure (Next.value v) : Sem Next).run P w) := by
    intro s hs
    refine ⟨.map (some w.heap.size), w.alloc (.map #[] 0), .map #[] 0, ⟨w.heap.size, 0, 0, 0⟩, by simp [hs], rfl, rfl, rfl, rfl, rfl, ⟨[], rfl, .nil⟩, ?_⟩
    intro ρ' a ha
    simpa [NewV.at] using VRel.map a _ ha
  split at hp
  · cases hp
    exact key _ (by simp [Instr.makeMap])
  · rename_i x
    split at hp
    · rename_i k e ik n hu he
      cases hp
      have := int_rel (hr x rfl _ he)
      exact key _ (by simp [Instr.makeMap, run_und hu, this, asInt, asIntOf])
    · cases hp
theorem p_indexAddr {t : TypeId} {x i : Operand} (hop : o.op = .indexAddr t x i) (hp : pureOp P ev rd o = some po)
    (hx : ∀ v, ev x = some v → VRel ρ v (ev' x)) (hi : ∀ v, ev i = some v → VRel ρ v (ev' i)) : POk P ρ w po ((execOp ev' o).run P w) := by
  simp only [pureOp, hop] at hp
  simp only [execOp, hop]
  apply POk.ofSem
  split at hp
  · rename_i n e a k j hu he hj
    split at hp
    · rename_i sz hlt hs
      have hlt : j < n := Nat.le_of_ble_eq_true hlt
      cases hp
      have hr := hx _ he
      have h2 := int_rel (hi _ hj)
      generalize ev' x = y at hr ⊢
      cases hr with
      | ptr a o l e' =>
        refine ⟨_, .pointer (some ⟨l.b, l.o + o + j * sz, none⟩), rfl, ?_, ?_⟩
        · have hb : (0 : Int) ≤ Int.ofNat j ∧ Int.ofNat j < (n : Int) := by
            simp only [Int.ofNat_eq_natCast]; omega
          simp only [Instr.indexAt, h2, asIntOf, Sem.run_bind, Sem.run_pure, Result.andThen_ok, run_und hu, Instr.sureAddr]
          rw [if_pos hb]
          simp [run_size hs, add_none]
        · rw [Nat.add_assoc]; exact .ptr a _ l e'
    · cases hp
  · rename_i e a n c k j hu he hj
    split at hp
    · rename_i sz hlt hs
      have hlt : j < n := Nat.le_of_ble_eq_true hlt
      cases hp
      have hr := hx _ he
      have h2 := int_rel (hi _ hj)
      have main : ∀ (a0 o0 : Nat) (l : Loc) (p : Addr) (cap : Nat), ρ a0 = some l → p = ⟨l.b, l.o + o0, none⟩ →
          ∃ v v', (PO.val (Value.pointer (some (addN ⟨a0, o0, none⟩ (Nat.mul j sz))))) = .val v ∧ (Instr.indexAt t (.slice (some p) n cap) (ev' i)).run P w = .ok v' w ∧ VRel ρ v v' := by
        intro a0 o0 l p cap e1 e2
        subst e2
        refine ⟨_, .pointer (some ⟨l.b, l.o + o0 + j * sz, none⟩), rfl, ?_, ?_⟩
        · have hb : (0 : Int) ≤ Int.ofNat j ∧ Int.ofNat j < (n : Int) := by
            simp only [Int.ofNat_eq_natCast]; omega
          simp only [Instr.indexAt, h2, asIntOf, Sem.run_bind, Sem.run_pure, Result.andThen_ok, run_und hu]
          rw [if_pos hb]
          simp [run_size hs, add_none]
        · rw [Nat.add_assoc]; exact .ptr _ _ l e1
      generalize ev' x = y at hr ⊢
      cases hr with
      | sl a o l p len _ e1 e2 e3 e4 =>
        have : p = ⟨l.b, l.o + o, none⟩ := by rcases e4 with h | h; exact h; omega
        exact main a o l p c e1 this
      | slo a o k' l p len cap e1 e2 e3 e4 e5 =>
        have : p = ⟨l.b, l.o + o, none⟩ := by rcases e5 with h | h; exact h; omega
        exact main a o l p cap e1 this
    · cases hp
  · cases hp
theorem p_index {t : TypeId} {x i : Operand} (hop : o.op = .index t x i) (hp : pureOp P ev rd o = some po)
    (hx : ∀ v, ev x = some v → VRel ρ v (ev' x)) (hi : ∀ v, ev i = some v → VRel ρ v (ev' i)) : POk P ρ w po ((execOp ev' o).run P w) := by
  simp only [pureOp, hop] at hp
  simp only [execOp, hop]
  apply POk.ofSem
  split at hp
  · rename_i s k j hu he hj
    split at hp
    · rename_i b hb
      rw [nth_eq] at hb
      cases hp
      have h1 := string_rel (hx _ he)
      have h2 := int_rel (hi _ hj)
      refine ⟨_, .int .u8 b.toNat, rfl, ?_, .int _ _⟩
      have hlt : j < s.size := by
        rcases Nat.lt_or_ge j s.data.toList.length with h | h
        · exact h
        · rw [List.getElem?_eq_none h] at hb; cases hb
      have hsb : s[j]? = some b := by
        rw [getElem?_pos s j hlt]
        congr 1
        have : s.data.toList[j]? = some s.data.toList[j] := List.getElem?_eq_getElem hlt
        rw [this] at hb
        exact Option.some.inj hb
      simp only [Instr.index, h1, h2, asIntOf, Sem.run_bind, Sem.run_pure, Result.andThen_ok, run_und hu]
      simp [hsb]
    · cases hp
  · rename_i n e cs k j hu he hj
    split at hp
    · rename_i sz hlt hs
      have hlt : j < n := Nat.le_of_ble_eq_true hlt
      split at hp
      · rename_i v hv
        cases hp
        have hr := hx _ he
        have h2 := int_rel (hi _ hj)
        generalize ev' x = y at hr ⊢
        cases hr with
        | agg xs xs' hl =>
          obtain ⟨v', g1, g2⟩ := part_sound (w := w) (cs' := ⟨xs'⟩) hv hl
          refine ⟨v, v', rfl, ?_, g2⟩
          have hb : (0 : Int) ≤ Int.ofNat j ∧ Int.ofNat j < (n : Int) := by
            simp only [Int.ofNat_eq_natCast]; omega
          simp only [Instr.index, h2, asIntOf, Sem.run_bind, Sem.run_pure, Result.andThen_ok, run_und hu]
          rw [if_pos hb]
          have : (Int.ofNat j).toNat = j := rfl
          simp only [Sem.run_bind, run_size hs, Result.andThen_ok, this]
          exact g1
      · cases hp
    · cases hp
  · cases hp
theorem p_typeAssert {x : Operand} {xt t : TypeId} {ok : Bool} (hop : o.op = .typeAssert x xt t ok) (hp : pureOp P ev rd o = some po)
    (hx : ∀ v, ev x = some v → VRel ρ v (ev' x)) : POk P ρ w po ((execOp ev' o).run P w) := by
  simp only [pureOp, hop] at hp
  simp only [execOp, hop]
  apply POk.ofSem
  split at hp
  · cases hp
  · rename_i d hni hu he
    split at hp
    · rename_i z hz
      cases hp
      have hr := hx _ he
      generalize ev' x = y at hr ⊢
      cases hr
      refine ⟨_, .tuple #[z, .bool false], rfl, ?_, .tuple _ _ (.cons _ _ _ _ (flat_rel ρ (zero_flat hz)) (.cons _ _ _ _ (.bool _) .nil))⟩
      cases d <;> first
        | exact (hni _ rfl).elim
        | (simp [Instr.typeAssert, run_und hu, run_zero hz]; done)
    · cases hp
  · rename_i d u v hni hu he
    have hr := hx _ he
    generalize ev' x = y at hr ⊢
    cases hr with
    | iface _ _ v' hv =>
      split at hp
      · rename_i hut
        have hut : u = t := Nat.eq_of_beq_eq_true hut
        subst hut
        cases hp
        cases ok
        · refine ⟨_, v', rfl, ?_, hv⟩
          cases d <;> first
            | exact (hni _ rfl).elim
            | (simp [Instr.typeAssert, run_und hu]; done)
        · refine ⟨_, .tuple #[v', .bool true], rfl, ?_, .tuple _ _ (.cons _ _ _ _ hv (.cons _ _ _ _ (.bool _) .nil))⟩
          cases d <;> first
            | exact (hni _ rfl).elim
            | (simp [Instr.typeAssert, run_und hu]; done)
      · rename_i hut
        have hut : u ≠ t := fun e => by subst e; simp at hut
        split at hp
        · rename_i z hz
          cases hp
          refine ⟨_, .tuple #[z, .bool false], rfl, ?_, .tuple _ _ (.cons _ _ _ _ (flat_rel ρ (zero_flat hz)) (.cons _ _ _ _ (.bool _) .nil))⟩
          cases d <;> first
            | exact (hni _ rfl).elim
            | (simp [Instr.typeAssert, run_und hu, hut, run_zero hz]; done)
        · cases hp
  · cases hp
theorem p_range {t : TypeId} {x : Operand} (hop : o.op = .range t x) (hp : pureOp P ev rd o = some po)
    (hx : ∀ v, ev x = some v → VRel ρ v (ev' x)) : POk P ρ w po ((execOp ev' o).run P w) := by
  simp only [pureOp, hop] at hp
  simp only [execOp, hop]
  split at hp
  · rename_i s hu he
    cases hp
    have h1 := string_rel (hx _ he)
    refine ⟨.pointer (some ⟨w.heap.size, 0, none⟩), w.alloc (.stringIter s 0), .stringIter s 0, ⟨w.heap.size, 0, 0, 0⟩, by simp [Instr.range, run_und hu, h1], rfl, rfl, rfl, rfl, rfl, ⟨rfl, rfl⟩, ?_⟩
    intro ρ' a ha; simpa [NewV.at] using VRel.ptr a 0 _ ha
  · cases hp
end
end Go.Ev

/- Conversions, slices, lookups. -/
namespace Go.Ev
section
variable {P : Program} {ρ : Ren} {h : Hp} {w : World} {ev : Operand → Option Value} {ev' : Operand → Value} {rd : Rd} {o : Oper} {po : PO}

theorem boundF_sound {v : Option Value} {d top n : Nat} (hb : boundF v d top = some n) : (v = none ∧ n = d) ∨ (∃ k, v = some (.int k (.ofNat n)) ∧ n ≤ top) := by
  unfold boundF at hb
  split at hb
  · cases hb; exact .inl ⟨rfl, rfl⟩
  · split at hb
    · rename_i h1; cases hb; exact .inr ⟨_, rfl, Nat.le_of_ble_eq_true h1⟩
    · cases hb
  · cases hb
theorem sliceBound_run {k : IntKind} {n top : Nat} {code : BoundsCode} (hle : n ≤ top) : (Instr.sliceBound (.int k (.ofNat n)) top code).run P w = .ok n w := by
  simp only [Instr.sliceBound, asIntOf, Sem.run_bind, Sem.run_pure, Result.andThen_ok]
  rw [if_pos (by simp only [Int.ofNat_eq_natCast]; omega)]
  rfl

/-- The bounds of a slice expression. -/
theorem sliceBounds_run {isSl : Bool} {len cap : Nat} {lo hi mx : Option Value} {l h' m : Nat} (hm : boundF mx cap cap = some m) (hh : boundF hi len m = some h') (hl : boundF lo 0 h' = some l)
    (hmx : mx = none ∨ hi ≠ none) (_hlen : mx = none → hi = none → True) : (Instr.sliceBounds isSl len cap lo hi mx).run P w = .ok (l, h', m) w := by
  rcases boundF_sound hm with ⟨rfl, rfl⟩ | ⟨k1, rfl, m1⟩
  · rcases boundF_sound hh with ⟨rfl, rfl⟩ | ⟨k2, rfl, m2⟩
    · rcases boundF_sound hl with ⟨rfl, rfl⟩ | ⟨k3, rfl, m3⟩
      · simp only [Instr.sliceBounds, Sem.run_bind, Sem.run_pure, Result.andThen_ok]
      · simp only [Instr.sliceBounds, Sem.run_bind, Sem.run_pure, Result.andThen_ok, sliceBound_run m3]
    · rcases boundF_sound hl with ⟨rfl, rfl⟩ | ⟨k3, rfl, m3⟩
      · simp only [Instr.sliceBounds, Sem.run_bind, Sem.run_pure, Result.andThen_ok, sliceBound_run m2]
      · simp only [Instr.sliceBounds, Sem.run_bind, Sem.run_pure, Result.andThen_ok, sliceBound_run m2, sliceBound_run m3]
  · rcases boundF_sound hh with ⟨rfl, rfl⟩ | ⟨k2, rfl, m2⟩
    · rcases hmx with h | h
      · cases h
      · exact absurd rfl h
    · rcases boundF_sound hl with ⟨rfl, rfl⟩ | ⟨k3, rfl, m3⟩
      · simp only [Instr.sliceBounds, Sem.run_bind, Sem.run_pure, Result.andThen_ok, sliceBound_run m1, sliceBound_run m2]
      · simp only [Instr.sliceBounds, Sem.run_bind, Sem.run_pure, Result.andThen_ok, sliceBound_run m1, sliceBound_run m2, sliceBound_run m3]
theorem boundF_more {v : Option Value} {d top top' n : Nat} (hb : boundF v d top = some n) (hle : top ≤ top') : boundF v d top' = some n := by
  rcases boundF_sound hb with ⟨rfl, rfl⟩ | ⟨k, rfl, m⟩
  · rfl
  · simp only [boundF]; rw [Nat.ble_eq_true_of_le (Nat.le_trans m hle)]
theorem boundF_le {v : Option Value} {d top n : Nat} (hb : boundF v d top = some n) (hd : d ≤ top) : n ≤ top := by
  rcases boundF_sound hb with ⟨rfl, rfl⟩ | ⟨k, rfl, m⟩
  · exact hd
  · exact m
theorem boundF_some {v : Value} {d d' top n : Nat} (hb : boundF (some v) d top = some n) : boundF (some v) d' top = some n := by
  rcases boundF_sound hb with ⟨h, _⟩ | ⟨k, h, m⟩
  · cases h
  · cases h; simp only [boundF]; rw [Nat.ble_eq_true_of_le m]

/-- An optional operand that is a whole number stands for itself. -/
theorem opvO_bound {x : Option Operand} {v : Option Value} {d top n : Nat} (he : opvO ev x = some v) (hx : ∀ y, x = some y → ∀ v, ev y = some v → VRel ρ v (ev' y)) (hb : boundF v d top = some n) :
    x.map ev' = v := by
  unfold opvO at he
  split at he
  · cases he; rfl
  · rename_i y
    split at he
    · rename_i u hu
      cases he
      have hr := hx y rfl u hu
      rcases boundF_sound hb with ⟨h1, _⟩ | ⟨k, h1, _⟩
      · cases h1
      · cases h1
        simp [int_rel hr]
    · cases he
theorem opvO_none {x : Option Operand} (he : opvO ev x = some none) : x = none := by
  unfold opvO at he
  split at he
  · rfl
  · split at he
    · cases he
    · cases he

theorem p_slice {t : TypeId} {x : Operand} {lo hi mx : Option Operand} (hop : o.op = .slice t x lo hi mx) (hp : pureOp P ev rd o = some po)
    (hx : ∀ v, ev x = some v → VRel ρ v (ev' x)) (hlo : ∀ y, lo = some y → ∀ v, ev y = some v → VRel ρ v (ev' y)) (hhi : ∀ y, hi = some y → ∀ v, ev y = some v → VRel ρ v (ev' y))
    (hmx : ∀ y, mx = some y → ∀ v, ev y = some v → VRel ρ v (ev' y)) : POk P ρ w po ((execOp ev' o).run P w) := by
  simp only [pureOp, hop] at hp
  simp only [execOp, hop]
  apply POk.ofSem
  split at hp
  · rename_i s lo' hi' hu he hlo' hhi' hmx'
    have hm0 := opvO_none hmx'
    subst hm0
    split at hp
    · rename_i h' hh'
      split at hp
      · rename_i l hl
        split at hp
        · rename_i r hr
          split at hp
          · rename_i q hq
            cases hp
            obtain ⟨d1, d2⟩ := dropL_eq _ _ _ hr
            obtain ⟨t1, t2⟩ := takeL_eq _ _ _ hq
            have e1 := opvO_bound hlo' hlo hl
            have e2 := opvO_bound hhi' hhi hh'
            have h1 := string_rel (hx _ he)
            have hsz : s.size = s.data.toList.length := rfl
            have hb : boundF (none : Option Value) s.size s.size = some s.size := rfl
            have hh2 : boundF hi' s.size s.size = some h' := hh'
            refine ⟨_, .string (s.extract l h'), rfl, ?_, ?_⟩
            · simp only [Option.map_none]
              simp [Instr.sliceAt, Instr.slice, run_und hu, h1, e1, e2, sliceBounds_run (isSl := false) (mx := none) hb hh2 hl (.inl rfl) (fun _ _ => trivial)]
            · have : s.extract l h' = ⟨⟨q⟩⟩ := by
                apply ByteArray.ext
                rw [ByteArray.data_extract]
                apply Array.ext'
                rw [t1, d1]
                simp
              rw [this]; exact .string _
          · cases hp
        · cases hp
      · cases hp
    · cases hp
  · rename_i e lo' hi' hu he hlo' hhi' hmx'
    have hm0 := opvO_none hmx'
    subst hm0
    split at hp
    · rename_i h1 l1 sz hh hl hsz
      cases hp
      have e1 := opvO_bound hlo' hlo hl
      have e2 := opvO_bound hhi' hhi hh
      have hr := hx _ he
      have hy : ev' x = .slice none 0 0 := by
        generalize ev' x = y at hr
        cases hr; rfl
      have hh0 : h1 = 0 := Nat.le_zero.1 (boundF_le hh (Nat.le_refl 0))
      have hl0 : l1 = 0 := by
        have := boundF_le hl (Nat.le_refl 0); omega
      subst hh0; subst hl0
      refine ⟨_, .slice none 0 0, rfl, ?_, .sl0⟩
      have hb : boundF (none : Option Value) 0 0 = some 0 := rfl
      simp only [Option.map_none]
      simp [Instr.sliceAt, Instr.slice, run_und hu, hy, e1, e2, sliceBounds_run (isSl := true) (mx := none) hb hh hl (.inl rfl) (fun _ _ => trivial), run_size hsz]
    · cases hp
  · rename_i e a len cap lo' hi' mx' hu he hlo' hhi' hmx'
    split at hp
    · rename_i sz hsz
      have hr := hx _ he
      -- a slice whose capacity comes out as a number
      have fin : ∀ (a0 o0 : Nat) (lc : Loc) (p : Addr) (cap' l h' m : Nat), a = ⟨a0, o0, none⟩ → ρ a0 = some lc → (p = ⟨lc.b, lc.o + o0, none⟩ ∨ cap' = 0) → ev' x = .slice (some p) len cap' →
          boundF mx' cap' cap' = some m → boundF hi' len m = some h' → boundF lo' 0 h' = some l → (mx' = none ∨ hi' ≠ none) → m < OPEN → h' ≤ m → m ≤ cap' → sliceTo a sz l h' m = some po →
          ∃ v v', po = .val v ∧ (Instr.sliceAt t (ev' x) (lo.map ev') (hi.map ev') (mx.map ev')).run P w = .ok v' w ∧ VRel ρ v v' := by
        intro a0 o0 lc p cap' l h' m q1 q2 q3 q4 bm bh bl bx bo hm1 hm2 hq
        subst q1
        have e1 := opvO_bound hlo' hlo bl
        have e2 := opvO_bound hhi' hhi bh
        have e3 := opvO_bound hmx' hmx bm
        have hrun : (Instr.sliceAt t (ev' x) (lo.map ev') (hi.map ev') (mx.map ev')).run P w = .ok (.slice (if m = l then some p else some (p.add (l * sz))) (h' - l) (m - l)) w := by
          simp [Instr.sliceAt, Instr.slice, run_und hu, q4, e1, e2, e3, sliceBounds_run (isSl := true) bm bh bl bx (fun _ _ => trivial), run_size hsz, add_none]
        unfold sliceTo at hq
        split at hq
        · rename_i hml
          have hml : m = l := Nat.eq_of_beq_eq_true hml
          cases hq
          rw [if_pos hml] at hrun
          exact ⟨_, _, rfl, hrun, .sl _ _ lc _ _ _ q2 (Nat.lt_of_le_of_lt (Nat.sub_le m l) bo) (by show h' - l ≤ m - l; omega) (.inr (by show m - l = 0; omega))⟩
        · rename_i hml
          have hml : ¬ m = l := fun e => by subst e; simp at hml
          cases hq
          rw [if_neg hml] at hrun
          refine ⟨_, _, rfl, hrun, .sl _ _ lc _ _ _ q2 (Nat.lt_of_le_of_lt (Nat.sub_le m l) bo) (by show h' - l ≤ m - l; omega) ?_⟩
          rcases q3 with q3 | q3
          · left; rw [q3, add_none, Nat.add_assoc]; rfl
          · right; show m - l = 0; omega
      split at hp
      · rename_i hcap
        have hcap : cap = OPEN + sz := Nat.eq_of_beq_eq_true hcap
        have hy : ∃ (a0 o0 k : Nat) (l : Loc) (p : Addr) (cap' : Nat), ev' x = .slice (some p) len cap' ∧ a = ⟨a0, o0, none⟩ ∧ ρ a0 = some l ∧ o0 = k * l.z ∧ k + cap' = l.n ∧ len ≤ cap' ∧ (p = ⟨l.b, l.o + o0, none⟩ ∨ cap' = 0) ∧ l.z = sz := by
          generalize ev' x = y at hr
          cases hr with
          | sl a o l p len _ e1 e2 e3 e4 => omega
          | slo a o k l p len cap' e1 e2 e3 e4 e5 => exact ⟨a, o, k, l, p, cap', rfl, rfl, e1, e2, e3, e4, e5, by omega⟩
        obtain ⟨a0, o0, k, lc, p, cap', y1, y7, y2, y3, y4, y5, y6, y8⟩ := hy
        split at hp
        · split at hp
          · rename_i h' hh
            split at hp
            · rename_i l hl
              cases hp
              have hm0 := opvO_none hmx'
              subst hm0
              have e1 := opvO_bound hlo' hlo hl
              have e2 := opvO_bound hhi' hhi hh
              have hh2 := boundF_more hh y5
              have hle := boundF_le hh (Nat.le_refl len)
              have hle2 := boundF_le hl (Nat.zero_le h')
              have hb : boundF (none : Option Value) cap' cap' = some cap' := rfl
              subst y7
              refine ⟨_, .slice (if cap' = l then some p else some (p.add (l * sz))) (h' - l) (cap' - l), rfl, ?_, ?_⟩
              · simp only [Option.map_none]
                simp [Instr.sliceAt, Instr.slice, run_und hu, y1, e1, e2, sliceBounds_run (isSl := true) (mx := none) hb hh2 hl (.inl rfl) (fun _ _ => trivial), run_size hsz]
              · have hsplit : (if cap' = l then some p else some (p.add (l * sz))) = some (if cap' = l then p else p.add (l * sz)) := by split <;> rfl
                rw [hsplit, ← y8]
                refine .slo a0 (o0 + l * lc.z) (k + l) lc _ _ _ y2 (by rw [y3, Nat.add_mul]) (by omega) (by show h' - l ≤ cap' - l; omega) ?_
                by_cases hc : cap' = l
                · right; omega
                · rw [if_neg hc]
                  left
                  rcases y6 with y6 | y6
                  · rw [y6, add_none, Nat.add_assoc]
                  · omega
            · cases hp
          · cases hp
        · rename_i mv
          split at hp
          · rename_i m hm
            split at hp
            · rename_i hv hmo
              split at hp
              · rename_i h' hh
                split at hp
                · rename_i l hl
                  have hm2 : boundF (some mv) cap' cap' = some m := boundF_some (boundF_more hm y5)
                  have hmle := boundF_le hm (Nat.zero_le len)
                  have hh1 := boundF_le hh (Nat.zero_le m)
                  exact fin a0 o0 lc p cap' l h' m y7 y2 y6 y1 hm2 (boundF_some hh) hl (.inr (by simp)) (Nat.le_of_ble_eq_true hmo) hh1 (by omega) hp
                · cases hp
              · cases hp
            · cases hp
          · cases hp
      · rename_i hncap
        split at hp
        · rename_i hcap
          have hcap : cap < OPEN := Nat.le_of_ble_eq_true hcap
          have hy : ∃ (a0 o0 : Nat) (l : Loc) (p : Addr), ev' x = .slice (some p) len cap ∧ a = ⟨a0, o0, none⟩ ∧ ρ a0 = some l ∧ (p = ⟨l.b, l.o + o0, none⟩ ∨ cap = 0) := by
            generalize ev' x = y at hr
            cases hr with
            | sl a o l p len _ e1 e2 e3 e4 => exact ⟨a, o, l, p, rfl, rfl, e1, e4⟩
            | slo a o k l p len cap' e1 e2 e3 e4 e5 => omega
          obtain ⟨a0, o0, lc, p, y1, y2, y3, y4⟩ := hy
          split at hp
          · cases hp
          · rename_i hno
            split at hp
            · rename_i m hm
              split at hp
              · rename_i h' hh
                split at hp
                · rename_i l hl
                  split at hp
                  · rename_i hlm
                    have hmle : m ≤ cap := boundF_le hm (Nat.le_refl cap)
                    refine fin a0 o0 lc p cap l h' m y2 y3 y4 y1 hm hh hl ?_ (by omega) (Nat.le_of_ble_eq_true hlm) hmle hp
                    rcases mx' with _ | mv
                    · exact .inl rfl
                    · right; intro e; subst e; exact hno _ rfl rfl
                  · cases hp
                · cases hp
              · cases hp
            · cases hp
        · cases hp
    · cases hp
  · rename_i n e a lo' hi' hu he hlo' hhi' hmx'
    have hm0 := opvO_none hmx'
    subst hm0
    split at hp
    · rename_i sz hsz hn
      have hn : n ≤ 1000000 := Nat.le_of_ble_eq_true hn
      have hr := hx _ he
      split at hp
      · rename_i h' hh
        split at hp
        · rename_i l hl
          have e1 := opvO_bound hlo' hlo hl
          have e2 := opvO_bound hhi' hhi hh
          have hy : ∃ (a0 o0 : Nat) (lc : Loc), ev' x = .pointer (some ⟨lc.b, lc.o + o0, none⟩) ∧ a = ⟨a0, o0, none⟩ ∧ ρ a0 = some lc := by
            generalize ev' x = y at hr
            cases hr with
            | ptr a o l e1 => exact ⟨a, o, l, rfl, rfl, e1⟩
          obtain ⟨a0, o0, lc, y1, rfl, y3⟩ := hy
          have hb : boundF (none : Option Value) n n = some n := rfl
          have hrun : (Instr.sliceAt t (ev' x) (lo.map ev') (hi.map ev') none).run P w = .ok (.slice (some (if n = l then ⟨lc.b, lc.o + o0, none⟩ else ⟨lc.b, lc.o + o0 + l * sz, none⟩)) (h' - l) (n - l)) w := by
            simp [Instr.sliceAt, run_und hu, y1, Instr.sureAddr, e1, e2, sliceBounds_run (isSl := false) (mx := none) hb hh hl (.inl rfl) (fun _ _ => trivial), run_size hsz, add_none]
          have hlt : n - l < OPEN := by simp only [OPEN]; omega
          have hhn := boundF_le hh (Nat.le_refl n)
          unfold sliceTo at hp
          split at hp
          · rename_i hml
            have hml : n = l := Nat.eq_of_beq_eq_true hml
            cases hp
            rw [if_pos hml] at hrun
            exact ⟨_, _, rfl, hrun, .sl _ _ lc _ _ _ y3 hlt (by show h' - l ≤ n - l; omega) (.inl rfl)⟩
          · rename_i hml
            have hml : ¬ n = l := fun e => by subst e; simp at hml
            cases hp
            rw [if_neg hml] at hrun
            exact ⟨_, _, rfl, hrun, .sl _ _ lc _ _ _ y3 hlt (by show h' - l ≤ n - l; omega) (.inl (by rw [Nat.add_assoc]; rfl))⟩
        · cases hp
      · cases hp
    · cases hp
  · cases hp

theorem keyOk_eq {t : TypeId} {k : Value} (hk : keyOk P t k = true) : (∃ kd n, k = .int kd n ∧ ∃ kd', P.underlying t = some (.int kd')) ∨ (∃ s, k = .string s ∧ P.underlying t = some .string) ∨ (∃ b, k = .bool b ∧ P.underlying t = some .bool) := by
  unfold keyOk at hk
  split at hk
  · rename_i kd n
    split at hk
    · rename_i kd' hu; exact .inl ⟨kd, n, rfl, kd', hu⟩
    · cases hk
  · rename_i s
    split at hk
    · rename_i hu; exact .inr (.inl ⟨s, rfl, hu⟩)
    · cases hk
  · rename_i b
    split at hk
    · rename_i hu; exact .inr (.inr ⟨b, rfl, hu⟩)
    · cases hk
  · cases hk
theorem key_rel {t : TypeId} {k k' : Value} (hk : keyOk P t k = true) (hr : VRel ρ k k') : k' = k := by
  rcases keyOk_eq hk with ⟨kd, n, rfl, _⟩ | ⟨s, rfl, _⟩ | ⟨b, rfl, _⟩
  · exact int_rel hr
  · exact string_rel hr
  · exact bool_rel hr
theorem checkKey_run' {t : TypeId} {k : Value} (hk : keyOk P t k = true) (e : Bool) (m : Nat) : (Instr.checkKey e (m + 1) t k).run P w = .ok () w := by
  rcases keyOk_eq hk with ⟨kd, n, rfl, kd', hu⟩ | ⟨s, rfl, hu⟩ | ⟨b, rfl, hu⟩ <;> simp [Instr.checkKey, run_und hu]
theorem checkKey_run {t : TypeId} {k : Value} (hk : keyOk P t k = true) (e : Bool) : (Instr.checkKey e 10000 t k).run P w = .ok () w := checkKey_run' hk e 9999
theorem beqBA (a b : ByteArray) : (a == b) = (a.data.toList == b.data.toList) := by
  obtain ⟨⟨x⟩⟩ := a
  obtain ⟨⟨y⟩⟩ := b
  show ((⟨x⟩ : Array UInt8) == ⟨y⟩) = (x == y)
  simp
theorem sameK_now {t : TypeId} {d : TypeDesc} {k : Value} (hk : keyOk P t k = true) (hu : P.underlying t = some d) {e e' : Value} (he : VRel ρ e e') {r : Bool} (hs : sameK k e = some r) : Instr.sameNow d k e' = some r := by
  rcases keyOk_eq hk with ⟨kd, n, rfl, kd', hu'⟩ | ⟨s, rfl, hu'⟩ | ⟨b, rfl, hu'⟩ <;> (rw [hu] at hu'; cases hu')
  · cases e with
    | int k2 m =>
      simp only [sameK] at hs
      split at hs
      · rename_i hkk
        have hkk := eqK_eq.1 hkk
        subst hkk
        cases hs
        rw [int_rel he]
        simp only [Instr.sameNow, if_true, eqI_eq]
        congr 1
      · cases hs
    | _ => simp [sameK] at hs
  · cases e with
    | string s2 =>
      simp only [sameK] at hs
      cases hs
      rw [string_rel he]
      simp only [Instr.sameNow, eqBytes_eq, beqBA]
    | _ => simp [sameK] at hs
  · cases e with
    | bool b2 =>
      simp only [sameK] at hs
      cases hs
      rw [bool_rel he]
      cases b <;> cases b2 <;> rfl
    | _ => simp [sameK] at hs
theorem findK_now {t : TypeId} {d : TypeDesc} {k : Value} (hk : keyOk P t k = true) (hu : P.underlying t = some d) {es es' : List MapEntry} (he : ELRel ρ es es') : ∀ {i : Nat} {r : Option (Nat × Value)}, findK k es i = some r →
    ∃ r', Instr.findNow d k es' i = some r' ∧ (match r, r' with | none, none => True | some (j, v), some (j', v') => j = j' ∧ VRel ρ v v' ∧ i ≤ j ∧ ∃ e e', es[j - i]? = some e ∧ es'[j - i]? = some e' ∧ sameK k e.key = some true ∧ ERel ρ e e' ∧ e.val = v | _, _ => False) := by
  induction he with
  | nil => intro i r h; simp [findK] at h; subst h; exact ⟨none, rfl, trivial⟩
  | cons e e' l l' her _ ih =>
    intro i r h
    simp only [findK] at h
    split at h
    · rename_i hs
      cases h
      have := sameK_now hk hu her.1 hs
      refine ⟨some (i, e'.val), by simp only [Instr.findNow, this], rfl, her.2.1, Nat.le_refl i, e, e', by simp, by simp, hs, her, rfl⟩
    · rename_i hs
      have := sameK_now hk hu her.1 hs
      obtain ⟨r', h1, h2⟩ := ih h
      refine ⟨r', by simp only [Instr.findNow, this]; exact h1, ?_⟩
      cases r with
      | none => cases r' with
        | none => trivial
        | some p => exact h2
      | some p =>
        obtain ⟨j, v⟩ := p
        cases r' with
        | none => exact h2
        | some p' =>
          obtain ⟨j', v'⟩ := p'
          obtain ⟨q1, q2, q3, x, x', q4, q5, q6, q7, q8⟩ := h2
          have q3 : i + 1 ≤ j := q3
          refine ⟨q1, q2, by omega, x, x', ?_, ?_, q6, q7, q8⟩
          · have : j - i = (j - (i + 1)) + 1 := by omega
            rw [this]; simpa using q4
          · have : j - i = (j - (i + 1)) + 1 := by omega
            rw [this]; simpa using q5
    · cases h
theorem mapT_eq {t k e : TypeId} (h : mapT P t = some (k, e)) : P.underlying t = some (.map k e) := by
  unfold mapT at h
  split at h
  · rename_i hu; cases h; exact hu
  · cases h
theorem lookup_run {t k e : TypeId} {d : TypeDesc} {m key key' : Value} {es' : List MapEntry} {j : Nat} {v : Value} (hu : P.underlying t = some (.map k e)) (hkey : keyOk P k key = true) (hd : P.underlying k = some d) (hk : key' = key)
    (hm : (m = .map none ∧ es' = []) ∨ (∃ r cl, m = .map (some r) ∧ w.heap[r]? = some (.map ⟨es'⟩ cl)))
    (hf : Instr.findNow d key es' 0 = some (some (j, v))) (ok : Bool) : (Instr.lookup t m key' ok).run P w = .ok (if ok then .tuple #[v, .bool true] else v) w := by
  subst hk
  rcases hm with ⟨rfl, rfl⟩ | ⟨r, cl, rfl, hb⟩
  · simp [Instr.findNow] at hf
  · have hg : (getObj r).run P w = .ok (.map ⟨es'⟩ cl) w := by simp [getObj, Sem.run, hb]
    simp only [Instr.lookup, Sem.run_bind, run_und hu, Result.andThen_ok, hg, Sem.run_pure, checkKey_run hkey, Instr.findKey, run_und hd, hf]
theorem lookup_none {t k e : TypeId} {d : TypeDesc} {m key key' z : Value} {es' : List MapEntry} (hu : P.underlying t = some (.map k e)) (hkey : keyOk P k key = true) (hd : P.underlying k = some d) (hk : key' = key) (hz : zeroT P e = some z)
    (hm : (m = .map none ∧ es' = []) ∨ (∃ r cl, m = .map (some r) ∧ w.heap[r]? = some (.map ⟨es'⟩ cl)))
    (hf : Instr.findNow d key es' 0 = some none) (ok : Bool) : (Instr.lookup t m key' ok).run P w = .ok (if ok then .tuple #[z, .bool false] else z) w := by
  subst hk
  rcases hm with ⟨rfl, rfl⟩ | ⟨r, cl, rfl, hb⟩
  · simp only [Instr.lookup, Sem.run_bind, run_und hu, Result.andThen_ok, Sem.run_pure, checkKey_run hkey, Instr.findKey, run_und hd, hf, run_zero hz]
  · have hg : (getObj r).run P w = .ok (.map ⟨es'⟩ cl) w := by simp [getObj, Sem.run, hb]
    simp only [Instr.lookup, Sem.run_bind, run_und hu, Result.andThen_ok, hg, Sem.run_pure, checkKey_run hkey, Instr.findKey, run_und hd, hf, run_zero hz]
theorem p_lookup {t : TypeId} {x i : Operand} {ok : Bool} (hR : Rel P ρ h w) (hrd : ∀ a o, rd a = some o → h a = some o) (hop : o.op = .lookup t x i ok) (hp : pureOp P ev rd o = some po)
    (hx : ∀ v, ev x = some v → VRel ρ v (ev' x)) (hi : ∀ v, ev i = some v → VRel ρ v (ev' i)) : POk P ρ w po ((execOp ev' o).run P w) := by
  simp only [pureOp, hop] at hp
  simp only [execOp, hop]
  apply POk.ofSem
  split at hp
  · rename_i k e m key hm he hk
    split at hp
    · cases hp
    · rename_i hkey
      have hu := mapT_eq hm
      have hk' := key_rel hkey (hi _ hk)
      obtain ⟨d, hd⟩ : ∃ d, P.underlying k = some d := by
        rcases keyOk_eq hkey with ⟨_, _, _, _, hu'⟩ | ⟨_, _, hu'⟩ | ⟨_, _, hu'⟩ <;> exact ⟨_, hu'⟩
      split at hp
      · cases hp
      · rename_i es hes
        have hmap : ∃ (es' : List MapEntry), ((ev' x = .map none ∧ es' = []) ∨ (∃ r cl, ev' x = .map (some r) ∧ w.heap[r]? = some (.map ⟨es'⟩ cl))) ∧ ELRel ρ es es' := by
          have hr := hx _ he
          generalize ev' x = y at hr ⊢
          split at hes
          · cases hes; cases hr; exact ⟨[], .inl ⟨rfl, rfl⟩, .nil⟩
          · rename_i r
            split at hes
            · rename_i es0 cl hrr
              cases hes
              cases hr with
              | map a l e1 =>
                obtain ⟨l', ob, g1, g2, g3⟩ := hR.obj _ _ (hrd _ _ hrr)
                rw [e1] at g1; cases g1
                obtain ⟨es', g4, g5⟩ := g3
                exact ⟨es', .inr ⟨_, cl, rfl, by rw [g2, g4]⟩, g5⟩
            · cases hes
          · cases hes
        obtain ⟨es', g1, g2⟩ := hmap
        split at hp
        · cases hp
        · rename_i j v hf
          obtain ⟨r', f1, f2⟩ := findK_now hkey hd g2 hf
          cases r' with
          | none => exact f2.elim
          | some p =>
            obtain ⟨j', v'⟩ := p
            obtain ⟨q1, q2, _⟩ := f2
            cases hp
            refine ⟨_, if ok then .tuple #[v', .bool true] else v', rfl, ?_, ?_⟩
            · exact lookup_run hu hkey hd hk' g1 f1 ok
            · cases ok
              · exact q2
              · exact .tuple _ _ (.cons _ _ _ _ q2 (.cons _ _ _ _ (.bool _) .nil))
        · rename_i hf
          obtain ⟨r', f1, f2⟩ := findK_now hkey hd g2 hf
          cases r' with
          | some p => exact f2.elim
          | none =>
            split at hp
            · rename_i z hz
              cases hp
              refine ⟨_, if ok then .tuple #[z, .bool false] else z, rfl, ?_, ?_⟩
              · exact lookup_none hu hkey hd hk' hz g1 f1 ok
              · cases ok
                · exact flat_rel ρ (zero_flat hz)
                · exact .tuple _ _ (.cons _ _ _ _ (flat_rel ρ (zero_flat hz)) (.cons _ _ _ _ (.bool _) .nil))
            · cases hp
  · cases hp
end
end Go.Ev

/- The last operations that turn nothing, and all of them together. -/
namespace Go.Ev
section
variable {P : Program} {ρ : Ren} {h : Hp} {w : World} {ev : Operand → Option Value} {ev' : Operand → Value} {rd : Rd} {o : Oper} {po : PO}

theorem repL_rel {z : List Value} (hz : LRel ρ z z) (m : Nat) : LRel ρ (repL m z) (repL m z) := by
  induction m with
  | zero => exact .nil
  | succ m ih => exact hz.append ih
theorem p_makeSlice {t : TypeId} {l c : Operand} (hop : o.op = .makeSlice t l c) (hp : pureOp P ev rd o = some po)
    (hl : ∀ v, ev l = some v → VRel ρ v (ev' l)) (hc : ∀ v, ev c = some v → VRel ρ v (ev' c)) : POk P ρ w po ((execOp ev' o).run P w) := by
  simp only [pureOp, hop] at hp
  simp only [execOp, hop]
  split at hp
  · rename_i e k1 l0 k2 c0 hu hel hec
    split at hp
    · rename_i sz z i hz hi
      obtain ⟨hsz, hlen, hzz, hpos, zv, hzv, hzc⟩ := elemZ_eq (ρ := ρ) hz
      split at hp
      · rename_i h1 h2 h3 h4
        have h1 : l0 ≤ c0 := Nat.le_of_ble_eq_true h1
        have h2 : c0 * sz ≤ 100000 := Nat.le_of_ble_eq_true h2
        have h3 : c0 ≤ 100000 := Nat.le_of_ble_eq_true h3
        have h4 : i.bytes * c0 ≤ 1000000000000 := Nat.le_of_ble_eq_true h4
        cases hp
        have r1 := int_rel (hl _ hel)
        have r2 := int_rel (hc _ hec)
        have w1 : IntKind.i64.wrap (l0 : Int) = l0 := wrap_small (by simp only [capN]; omega)
        have w2 : IntKind.i64.wrap (c0 : Int) = c0 := wrap_small (by simp only [capN]; omega)
        have hcells : (Array.map (fun i => (if c0 * sz = 0 then (#[] : Array Value) else zv.cells)[i % (if c0 * sz = 0 then (#[] : Array Value) else zv.cells).size]!) (Array.range (c0 * sz))) = (⟨repL c0 z⟩ : Array Value) := by
          by_cases h0 : c0 * sz = 0
          · simp only [h0, if_true]
            have : (repL c0 z) = [] := by
              apply List.eq_nil_of_length_eq_zero; rw [repL_length, hlen]; exact h0
            rw [this]; simp
          · simp only [h0, if_false]
            have hs : zv.cells.size = sz := by rw [← hlen, hzc, ← cellsV_cells]; simp
            have := range_rep c0 zv.cells
            rw [hs] at this ⊢
            rw [this, hzc, ← cellsV_cells]
        refine ⟨.slice (some ⟨w.heap.size, 0, none⟩) l0 c0, w.alloc (.cells ⟨repL c0 z⟩ e), .cells ⟨repL c0 z⟩ e, ⟨w.heap.size, 0, 0, 0⟩, ?_, rfl, rfl, rfl, rfl, rfl, ?_, ?_⟩
        · have hb : ((i.bytes : Int) * (c0 : Int)) ≤ ((1000000000000 : Nat) : Int) := by rw [← Int.natCast_mul]; exact Int.ofNat_le.2 h4
          have hcond : ¬ ((((decide ((c0 : Int) < 0) || decide ((i.bytes : Int) * (c0 : Int) > 2 ^ 48)) || decide ((l0 : Int) < 0) || decide ((l0 : Int) > (c0 : Int))) : Bool) = true) := by
            simp; omega
          simp only [Instr.makeSlice, Sem.run_bind, run_und hu, Result.andThen_ok, r1, r2, asInt, asIntOf, Sem.run_pure, run_ti hi, Int.ofNat_eq_natCast, w1, w2]
          rw [if_neg hcond]
          simp only [Sem.run_bind, run_askRoom, Result.andThen_ok, run_size hsz, Int.toNat_natCast]
          by_cases h0 : c0 * sz = 0
          · simp only [h0, if_true, Sem.run_pure, Result.andThen_ok] at hcells ⊢
            simp only [hcells, Sem.run_bind, Sem.run_pure, newRow, run_newObj, Result.andThen_ok, World.alloc_eq]
          · simp only [h0, if_false, Sem.run_bind, Sem.run_pure, Result.andThen_ok, run_zero hzv] at hcells ⊢
            simp only [hcells, Sem.run_bind, Sem.run_pure, newRow, run_newObj, Result.andThen_ok, World.alloc_eq]
        · exact row_new rfl (repL_rel hzz c0) (by rw [repL_length, hlen]; rfl)
        · intro ρ' a ha
          have : c0 < OPEN := by simp only [OPEN]; omega
          simpa [NewV.at] using VRel.sl a 0 ⟨w.heap.size, 0, 0, 0⟩ _ l0 c0 ha this h1 (.inl rfl)
      · cases hp
    · cases hp
  · cases hp

theorem bytesToString_loop {f : Value → ByteArray → Sem (ForInStep ByteArray)} (hf : ∀ n s, f (.int .u8 n) s = pure (.yield (s.push (UInt8.ofNat n.toNat)))) : ∀ (l : List Value) (b : List UInt8) (s : ByteArray), bytesOf l = some b →
    (forIn l s f : Sem ByteArray).run P w = .ok ⟨⟨s.data.toList ++ b⟩⟩ w := by
  intro l
  induction l with
  | nil => intro b s h; simp [bytesOf] at h; subst h; simp
  | cons v l ih =>
    intro b s h
    unfold bytesOf at h
    split at h
    · rename_i heq; cases heq
    · rename_i n l' heq
      cases heq
      split at h
      · rename_i r hr
        cases h
        simp only [List.forIn_cons, hf, Sem.run_bind, Sem.run_pure, Result.andThen_ok]
        rw [ih r _ hr]
        simp
      · cases h
    · cases h
theorem bytesToString_run {a : Addr} {n cap : Nat} {l : List Value} {b : List UInt8} (hl : (loadCells a n).run P w = .ok ⟨l⟩ w) (hb : bytesOf l = some b) :
    (Conv.bytesToString (.slice (some a) n cap)).run P w = .ok (.string ⟨⟨b⟩⟩) w := by
  simp only [Conv.bytesToString, Sem.run_bind, hl, Result.andThen_ok]
  rw [← Array.forIn_toList, bytesToString_loop (fun n s => rfl) l b ByteArray.empty hb]
  simp
theorem bytesOf_rel : ∀ {l l' : List Value} {b : List UInt8}, LRel ρ l l' → bytesOf l = some b → bytesOf l' = some b := by
  intro l
  induction l with
  | nil => intro l' b h hb; cases h; exact hb
  | cons v l ih =>
    intro l' b h hb
    cases h with
    | cons _ v' _ l' e h =>
      unfold bytesOf at hb
      split at hb
      · rename_i heq; cases heq
      · rename_i n l0 heq
        cases heq
        split at hb
        · rename_i r hr
          cases hb
          rw [int_rel e]
          simp only [bytesOf, ih h hr]
        · cases hb
      · cases hb
theorem freeze_last (w : World) (c : Array Value) (e : TypeId) : (World.freeze { w with heap := w.heap.push (.cells c e (0, 0)) } ⟨w.heap.size, c.size, none⟩ 1).heap = w.heap.push (.cells c e (c.size, c.size + 1)) := by
  unfold World.freeze
  rw [if_neg (by omega)]
  simp only
  apply Array.ext_getElem?
  intro i
  simp only [Array.getElem?_modify, Array.getElem?_push]
  by_cases h : i = w.heap.size
  · subst h; simp
  · simp [h, Ne.symm h]
theorem p_convert {src dst : TypeId} {x : Operand} (hR : Rel P ρ h w) (hrd : ∀ a o, rd a = some o → h a = some o) (hop : o.op = .convert src dst x) (hp : pureOp P ev rd o = some po)
    (hx : ∀ v, ev x = some v → VRel ρ v (ev' x)) : POk P ρ w po ((execOp ev' o).run P w) := by
  simp only [pureOp, hop] at hp
  simp only [execOp, hop]
  split at hp
  · rename_i k0 k k1 n hu1 hu2 he
    apply POk.ofSem
    cases hp
    have := int_rel (hx _ he)
    exact ⟨_, .int k (k.wrap n), rfl, by simp [convert, run_und hu1, run_und hu2, this, Conv.intToInt], by rw [wrapF_eq]; exact .int _ _⟩
  · rename_i s hu1 hu2 he
    apply POk.ofSem
    cases hp
    have := string_rel (hx _ he)
    exact ⟨_, .string s, rfl, by simp [convert, run_und hu1, run_und hu2, this], .string _⟩
  · rename_i e s hu1 hu2 he
    have hs := string_rel (hx _ he)
    split at hp
    · rename_i hue hse
      cases hp
      have hcut : ∀ t : Nat, ∃ cap, (Question.appendCap s.size 0 e).cut t = cap ∧ s.size ≤ cap := fun t => ⟨_, rfl, Nat.le_add_right _ _⟩
      obtain ⟨cap, hc, hle⟩ := hcut (w.tape w.drawn (.appendCap s.size 0 e))
      have hnf : (Question.appendCap s.size 0 e).forced = false := rfl
      have hsl : s.size = s.data.toList.length := rfl
      generalize hcells : ((s.data.map fun b => Value.int .u8 b.toNat) ++ Array.replicate (cap - s.size) (.int .u8 0) : Array Value) = cells at *
      have hsz : cells.size = cap := by
        rw [← hcells, Array.size_append, Array.size_map, Array.size_replicate]
        have : s.data.size = s.size := rfl
        omega
      refine ⟨.slice (some ⟨w.heap.size, 0, none⟩) s.size cap, World.freeze { w.drew with heap := w.heap.push (.cells cells e (0, 0)) } ⟨w.heap.size, cells.size, none⟩ 1, .cells cells e (cells.size, cells.size + 1), ⟨w.heap.size, 0, cap, 1⟩, ?_, ?_, ?_, ?_, ?_, rfl, ?_, ?_⟩
      · have e1 : (convert src dst (ev' x)).run P w = (Conv.stringToBytes e s).run P w := by simp [convert, run_und hu1, run_und hu2, hs, run_und hue]
        have hsh : World.shape? (w.drew.alloc (.cells cells e)) w.heap.size = some (e, cells.size) := by
          have hb : (w.drew.alloc (.cells cells e)).heap[w.heap.size]? = some (.cells cells e) := by
            show (w.heap.push (Obj.cells cells e))[w.heap.size]? = _
            exact Array.getElem?_push_size
          simp only [World.shape?, hb]
        simp only [Sem.run_bind, e1, Conv.stringToBytes, run_choose, hnf, Bool.false_eq_true, if_false, hc, Result.andThen_ok, hcells, newRow, run_newObj, Sem.run_pure, markStringish, run_shape, World.alloc_eq, World.drew_eq, World.size_drew]
        rw [hsh]
        simp only [run_freeze, Result.andThen_ok]
        rfl
      · exact freeze_last w.drew cells e
      · unfold World.freeze; rw [if_neg (by omega)]; rfl
      · unfold World.freeze; rw [if_neg (by omega)]; rfl
      · unfold World.freeze; rw [if_neg (by omega)]; rfl
      · refine ⟨cells, _, rfl, fun i hi => ?_, fun i hi => by simp; omega, fun h => by simp at h, fun h => by simp at h, fun _ => ⟨?_, ?_, ?_⟩⟩
        · have hi' : i < s.data.toList.length := hi
          refine ⟨.int .u8 (.ofNat (s.data.toList[i]).toNat), .int .u8 (.ofNat (s.data.toList[i]).toNat), ?_, ?_, .int _ _⟩
          · rw [rowOf_get, List.getElem?_map, List.getElem?_eq_getElem hi']; rfl
          · rw [Nat.zero_add, ← hcells, Array.getElem?_append_left (by simpa using hi'), Array.getElem?_map]
            have : s.data[i]? = some s.data.toList[i] := by
              rw [← Array.getElem?_toList, List.getElem?_eq_getElem hi']
            rw [this]; rfl
        · simp only; omega
        · simp only; omega
        · exact hse
      · intro ρ' a ha
        exact .slo a 0 0 _ _ _ _ ha (by simp) (by simp) hle (.inl rfl)
    · cases hp
  · rename_i t a hu1 hu2 he
    apply POk.ofSem
    have hr := hx _ he
    split at hp
    · rename_i cs n e opn fz m hsp hrow hsz
      split at hp
      · rename_i hlt
        have hlt : a.off < n := Nat.le_of_ble_eq_true hlt
        cases hp
        generalize ev' x = y at hr ⊢
        cases hr with
        | ptr a0 o0 l e1 =>
          obtain ⟨_, c, fr, hb⟩ := hR.row (hrd _ _ hrow) e1
          obtain ⟨v, v', q1, q2, q3⟩ := hR.cell (hrd _ _ hrow) e1 o0 hlt
          have hsh : w.shape? l.b = some (e, c.size) := by simp only [World.shape?, hb]
          have hc : l.o + o0 < c.size := by
            simp only [World.cell?, hb] at q2
            rcases Nat.lt_or_ge (l.o + o0) c.size with h | h
            · exact h
            · simp [Array.getElem?_eq_none h] at q2
          refine ⟨_, .pointer (some ⟨l.b, l.o + o0, none⟩), rfl, ?_, .ptr _ _ l e1⟩
          have hn : ¬ c.size ≤ l.o + o0 := by omega
          simp [convert, run_und hu1, run_und hu2, Conv.unsafePointer, Conv.seenAt, viewAt, hsh, cellsIn, run_size hsz, hn]
      · cases hp
    · cases hp
  · rename_i u a hu1 hu2 he
    apply POk.ofSem
    have hr := hx _ he
    split at hp
    · rename_i cs n e fz m hsp hrow hsu
      split at hp
      · rename_i hla
        cases hp
        generalize ev' x = y at hr ⊢
        cases hr with
        | ptr a0 o0 l e1 =>
          obtain ⟨hob, c, fr, hb⟩ := hR.row (hrd _ _ hrow) e1
          have hsh : w.shape? l.b = some (e, c.size) := by simp only [World.shape?, hb]
          rw [hb] at hob
          obtain ⟨c', fr', g1, _, _, _, g2, _⟩ := hob
          simp only [Option.getD_some] at g1
          cases g1
          obtain ⟨g3, g4⟩ := g2 rfl
          refine ⟨_, .pointer (some ⟨l.b, l.o + o0, none⟩), rfl, ?_, .ptr _ _ l e1⟩
          have hva : (variablesAt ⟨l.b, l.o + o0, none⟩ u 1).run P w = .ok true w := by
            simp only [variablesAt, Sem.run_bind, run_program, Result.andThen_ok, run_shape, hsh, Sem.run_pure, g4, g3, Nat.zero_add]
            rw [hla]
          have hm := run_size (w := w) hsu
          simp [convert, run_und hu1, run_und hu2, Conv.unsafePointer, Conv.seenAt, viewAt, hsh, hm, hva]
      · cases hp
    · cases hp
  · rename_i e l0 c0 hu1 hu2 he
    apply POk.ofSem
    have hr := hx _ he
    split at hp
    · rename_i hue
      cases hp
      generalize ev' x = y at hr ⊢
      cases hr
      exact ⟨_, .string .empty, rfl, by simp [convert, run_und hu1, run_und hu2, run_und hue, Conv.bytesToString], .string _⟩
    · cases hp
  · rename_i e a n cap hu1 hu2 he
    apply POk.ofSem
    have hr := hx _ he
    split at hp
    · rename_i l hue hl
      split at hp
      · rename_i b hb
        cases hp
        have hy : ∃ (p : Addr) (c' : Nat) (l' : List Value), ev' x = .slice (some p) n c' ∧ (loadCells p n).run P w = .ok ⟨l'⟩ w ∧ LRel ρ l l' := by
          unfold loadA at hl
          split at hl
          · rename_i cs m e0 opn fz hrow
            split at hl
            · cases hl
            · rename_i hsp
              simp only at hl
              split at hl
              · rename_i hle
                have hle : a.off + n ≤ m := Nat.le_of_ble_eq_true hle
                split at hl
                · rename_i l1 hl1
                  cases hl
                  have main : ∀ (a0 o0 : Nat) (lc : Loc) (p : Addr) (c' : Nat), a = ⟨a0, o0, none⟩ → ρ a0 = some lc → n ≤ c' → (p = ⟨lc.b, lc.o + o0, none⟩ ∨ c' = 0) → ev' x = .slice (some p) n c' →
                      ∃ (p : Addr) (c' : Nat) (l' : List Value), ev' x = .slice (some p) n c' ∧ (loadCells p n).run P w = .ok ⟨l'⟩ w ∧ LRel ρ l l' := by
                    intro a0 o0 lc p c' q1 q2 q3 q4 q5
                    subst q1
                    rcases q4 with q4 | q4
                    · subst q4
                      obtain ⟨l', g1, g2⟩ := hR.cells (hrd _ _ hrow) q2 hle hl1
                      exact ⟨_, _, l', q5, g1, g2⟩
                    · have hn0 : n = 0 := by omega
                      subst hn0
                      simp [cellsFrom] at hl1
                      subst hl1
                      exact ⟨p, c', [], q5, by simp [loadCells, loadCellsFrom], .nil⟩
                  generalize hy : ev' x = y at hr
                  cases hr with
                  | sl a0 o0 lc p _ _ e1 e2 e3 e4 => rw [hy] at main; exact main a0 o0 lc p _ rfl e1 e3 e4 rfl
                  | slo a0 o0 k lc p _ c' e1 e2 e3 e4 e5 => rw [hy] at main; exact main a0 o0 lc p c' rfl e1 e4 e5 rfl
                · cases hl
              · cases hl
          · cases hl
        obtain ⟨p, c', l', y1, y2, y3⟩ := hy
        have hbb := bytesOf_rel y3 hb
        refine ⟨_, .string ⟨⟨b⟩⟩, rfl, ?_, .string _⟩
        simp [convert, run_und hu1, run_und hu2, y1, run_und hue, bytesToString_run y2 hbb]
      · cases hp
    · cases hp
  · cases hp

theorem usd_some (ts : Array TypeId) (ty : TypeId) (a : Addr) (n c : Nat) (hc : c ≠ 0) : Builtin.unsafeSliceData_ ts ty ⟨[.slice (some a) n c]⟩ = pure (.pointer (some a)) := by
  change (if c ≠ 0 then _ else _) = _
  exact if_pos hc
theorem p_call {c : Call} (hR : Rel P ρ h w) (hrd : ∀ a o, rd a = some o → h a = some o) (hop : o.op = .call c) (hp : pureOp P ev rd o = some po)
    (hx : ∀ x ∈ c.args.toList, ∀ v, ev x = some v → VRel ρ v (ev' x)) : POk P ρ w po ((execOp ev' o).run P w) := by
  simp only [pureOp, hop] at hp
  simp only [execOp, hop]
  have hargs : c.args.map ev' = ⟨c.args.toList.map ev'⟩ := by apply Array.ext'; simp
  split at hp
  · rename_i hc
    split at hp
    · rename_i x t hca hct
      have hxx := hx x (by rw [hca]; simp)
      have ha : c.args.map ev' = #[ev' x] := by rw [hargs, hca]; rfl
      have ht : c.argTypes = #[t] := by apply Array.ext'; simpa using hct
      have hrun : ∀ s : Sem Value, (Builtin.len_ c.argTypes o.type #[ev' x] = s) → (do let d ← resolve ev' c o.type; invoke d.target d.args : Sem Next).run P w = (s >>= fun v => pure (Next.value v) : Sem Next).run P w := by
        intro s hs
        simp [resolve, hc, invoke, builtin, ha, hs]
      rw [hrun _ rfl]
      apply POk.ofSem
      split at hp
      · rename_i s hu he
        cases hp
        have := string_rel (hxx _ he)
        exact ⟨_, .int .i64 s.size, rfl, by simp [Builtin.len_, ht, run_und hu, this, goInt], .int _ _⟩
      · rename_i e a n cap hu he
        cases hp
        have hr := hxx _ he
        generalize ev' x = y at hr ⊢
        cases hr with
        | sl0 => exact ⟨_, .int .i64 (0 : Nat), rfl, by simp [Builtin.len_, ht, run_und hu, goInt], .int _ _⟩
        | sl a0 o0 lc p _ _ e1 e2 e3 e4 => exact ⟨_, .int .i64 n, rfl, by simp [Builtin.len_, ht, run_und hu, goInt], .int _ _⟩
        | slo a0 o0 k lc p _ c' e1 e2 e3 e4 e5 => exact ⟨_, .int .i64 n, rfl, by simp [Builtin.len_, ht, run_und hu, goInt], .int _ _⟩
      · rename_i n e v hu he
        cases hp
        exact ⟨_, .int .i64 n, rfl, by simp [Builtin.len_, ht, run_und hu, goInt], .int _ _⟩
      · rename_i hu he
        cases hp
        have hr := hxx _ he
        generalize ev' x = y at hr ⊢
        cases hr
        exact ⟨_, .int .i64 (0 : Nat), rfl, by simp [Builtin.len_, ht, run_und hu, goInt], .int _ _⟩
      · rename_i k e r hu he
        split at hp
        · rename_i es cl hrr
          cases hp
          have hr := hxx _ he
          generalize ev' x = y at hr ⊢
          cases hr with
          | map a l e1 =>
            obtain ⟨l', ob, g1, g2, g3⟩ := hR.obj _ _ (hrd _ _ hrr)
            rw [e1] at g1; cases g1
            obtain ⟨es', g4, g5⟩ := g3
            have hlen := g5.length
            refine ⟨_, .int .i64 (es'.length : Nat), rfl, ?_, by rw [hlen]; exact .int _ _⟩
            have hg : (getObj l.b).run P w = .ok (.map ⟨es'⟩ cl) w := by simp [getObj, Sem.run, g2, g4]
            simp [Builtin.len_, ht, run_und hu, goInt, hg]
        · cases hp
      · cases hp
    · cases hp
  · rename_i hc
    have hrun : ∀ (l : List Value) (s : Sem Value), c.args.map ev' = ⟨l⟩ → (Builtin.unsafeSliceData_ c.argTypes o.type ⟨l⟩ = s) → (do let d ← resolve ev' c o.type; invoke d.target d.args : Sem Next).run P w = (s >>= fun v => pure (Next.value v) : Sem Next).run P w := by
      intro l s ha hs
      simp [resolve, hc, invoke, builtin, ha, hs]
    split at hp
    · rename_i l0 c0 hvs
      cases hp
      have hl := opvs_rel (ρ := ρ) (ev' := ev') _ _ hx hvs
      generalize hg : List.map ev' c.args.toList = l' at hl hargs
      cases hl with
      | cons _ v' _ l2 e1 e2 =>
        cases e2
        cases e1
        rw [hrun _ _ hargs rfl]
        apply POk.ofSem
        exact ⟨_, .pointer none, rfl, rfl, .ptr0⟩
    · rename_i a n c0 hvs
      cases hp
      have hl := opvs_rel (ρ := ρ) (ev' := ev') _ _ hx hvs
      generalize hg : List.map ev' c.args.toList = l' at hl hargs
      cases hl with
      | cons _ v' _ l2 e1 e2 =>
        cases e2
        rw [hrun _ _ hargs rfl]
        apply POk.ofSem
        cases e1 with
        | sl a0 o0 lc p _ _ q1 q2 q3 q4 =>
          have hc0 : c0 ≠ 0 := by omega
          have hp : p = ⟨lc.b, lc.o + o0, none⟩ := by rcases q4 with h | h; exact h; omega
          subst hp
          exact ⟨_, .pointer (some ⟨lc.b, lc.o + o0, none⟩), rfl, by rw [usd_some _ _ _ _ _ hc0]; simp, .ptr _ _ lc q1⟩
        | slo a0 o0 k lc p _ c' q1 q2 q3 q4 q5 =>
          have hc0 : c' ≠ 0 := by omega
          have hp : p = ⟨lc.b, lc.o + o0, none⟩ := by rcases q5 with h | h; exact h; omega
          subst hp
          exact ⟨_, .pointer (some ⟨lc.b, lc.o + o0, none⟩), rfl, by rw [usd_some _ _ _ _ _ hc0]; simp, .ptr _ _ lc q1⟩
    · cases hp
  · rename_i hc
    split at hp
    · rename_i k a k2 b hvs
      cases hp
      have hl := opvs_rel (ρ := ρ) (ev' := ev') _ _ hx hvs
      generalize hg : List.map ev' c.args.toList = l' at hl hargs
      cases hl with
      | cons _ v' _ l2 e1 e2 =>
        cases e2 with
        | cons _ v2 _ l3 e2 e3 =>
          cases e3
          cases e1
          cases e2
          refine ⟨.int k (if b > a then b else a), ?_, ?_⟩
          · simp [resolve, hc, invoke, builtin, hargs, Builtin.max_, Builtin.max2]
          · have : maxI a b = if b > a then b else a := by
              unfold maxI
              rw [ltI_eq]
              by_cases h : a < b
              · simp [h]
              · simp [h]
            rw [this]; exact .int _ _
    · cases hp
  · rename_i hc
    split at hp
    · rename_i k a k2 b hvs
      cases hp
      have hl := opvs_rel (ρ := ρ) (ev' := ev') _ _ hx hvs
      generalize hg : List.map ev' c.args.toList = l' at hl hargs
      cases hl with
      | cons _ v' _ l2 e1 e2 =>
        cases e2 with
        | cons _ v2 _ l3 e2 e3 =>
          cases e3
          cases e1
          cases e2
          refine ⟨.int k (if b < a then b else a), ?_, ?_⟩
          · simp [resolve, hc, invoke, builtin, hargs, Builtin.min_, Builtin.min2]
          · have : minI a b = if b < a then b else a := by
              unfold minI
              rw [ltI_eq]
              by_cases h : b < a
              · simp [h]
              · simp [h]
            rw [this]; exact .int _ _
    · cases hp
  · cases hp

/-- All operations that turn nothing. -/
theorem pureOp_sound (hR : Rel P ρ h w) (hrd : ∀ a o, rd a = some o → h a = some o) (hp : pureOp P ev rd o = some po)
    (hev : ∀ x ∈ o.op.operands, ∀ v, ev x = some v → VRel ρ v (ev' x)) : POk P ρ w po ((execOp ev' o).run P w) := by
  cases hop : o.op with
  | move x => exact p_move (.inl hop) hp (hev x (by simp [hop, Op.operands]))
  | assign x => exact p_move (.inr hop) hp (hev x (by simp [hop, Op.operands]))
  | pick c a b => exact p_pick hop hp (hev c (by simp [hop, Op.operands])) (hev a (by simp [hop, Op.operands])) (hev b (by simp [hop, Op.operands]))
  | alloc t => exact p_alloc hop hp
  | box t x => exact p_box hop hp (hev x (by simp [hop, Op.operands]))
  | build t ps => exact p_build hop hp (fun x hx => hev x (by simpa [hop, Op.operands] using hx))
  | buildSlice t n ps => exact p_buildSlice hop hp (fun x hx => hev x (by simpa [hop, Op.operands] using hx))
  | load t a => exact p_load hR hrd hop hp (hev a (by simp [hop, Op.operands]))
  | nilCheck x => exact p_nilCheck hop hp (hev x (by simp [hop, Op.operands]))
  | binOp op t x y t' => exact p_binOp hR hrd hop hp (hev x (by simp [hop, Op.operands])) (hev y (by simp [hop, Op.operands]))
  | unOp op t x => exact p_unOp hop hp (hev x (by simp [hop, Op.operands]))
  | convert a b x => exact p_convert hR hrd hop hp (hev x (by simp [hop, Op.operands]))
  | makeInterface t x => exact p_makeInterface hop hp (hev x (by simp [hop, Op.operands]))
  | makeFunc fn a b => exact p_makeFunc hop hp (fun x hx => hev x (by simpa [hop, Op.operands] using hx))
  | makeMap t r => exact p_makeMap hop hp (fun x hx => hev x (by subst hx; simp [hop, Op.operands]))
  | makeSlice t l c => exact p_makeSlice hop hp (hev l (by simp [hop, Op.operands])) (hev c (by simp [hop, Op.operands]))
  | slice t x lo hi mx => exact p_slice hop hp (hev x (by simp [hop, Op.operands])) (fun y hy => hev y (by subst hy; simp [hop, Op.operands])) (fun y hy => hev y (by subst hy; simp [hop, Op.operands])) (fun y hy => hev y (by subst hy; simp [hop, Op.operands]))
  | fieldAddr t x f => exact p_fieldAddr hop hp (hev x (by simp [hop, Op.operands]))
  | field t x f => exact p_field hop hp (hev x (by simp [hop, Op.operands]))
  | indexAddr t x i => exact p_indexAddr hop hp (hev x (by simp [hop, Op.operands])) (hev i (by simp [hop, Op.operands]))
  | index t x i => exact p_index hop hp (hev x (by simp [hop, Op.operands])) (hev i (by simp [hop, Op.operands]))
  | lookup t x i ok => exact p_lookup hR hrd hop hp (hev x (by simp [hop, Op.operands])) (hev i (by simp [hop, Op.operands]))
  | range t x => exact p_range hop hp (hev x (by simp [hop, Op.operands]))
  | typeAssert x xt t ok => exact p_typeAssert hop hp (hev x (by simp [hop, Op.operands]))
  | extract x i => exact p_extract hop hp (hev x (by simp [hop, Op.operands]))
  | call c => exact p_call hR hrd hop hp (fun x hx => hev x (by simp [hop, Op.operands, Call.operands]; right; simpa using hx))
  | store _ _ _ => simp [pureOp, hop] at hp
  | insert _ _ _ _ => simp [pureOp, hop] at hp
  | ready _ => simp [pureOp, hop] at hp
  | waits _ => simp [pureOp, hop] at hp
  | sliceToArrayPointer _ _ => simp [pureOp, hop] at hp
  | makeChan _ _ => simp [pureOp, hop] at hp
  | mapUpdate _ _ _ _ => simp [pureOp, hop] at hp
  | mapEntry _ _ _ => simp [pureOp, hop] at hp
  | entryStore _ _ _ _ => simp [pureOp, hop] at hp
  | next _ _ => simp [pureOp, hop] at hp
  | entry _ => simp [pureOp, hop] at hp
  | go _ => simp [pureOp, hop] at hp
  | defer _ => simp [pureOp, hop] at hp
  | panic _ => simp [pureOp, hop] at hp
  | send _ _ => simp [pureOp, hop] at hp
  | recv _ _ _ => simp [pureOp, hop] at hp
  | select _ _ => simp [pureOp, hop] at hp
end
end Go.Ev
