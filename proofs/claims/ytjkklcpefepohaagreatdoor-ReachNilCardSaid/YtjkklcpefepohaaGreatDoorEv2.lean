/- An operation of the evaluator that turns nothing is the model's. -/
import Derived.Test.YtjkklcpefepohaaGreatDoorEv1
import Derived.Laws.Cells
import Derived.Laws.StructEq
set_option linter.unusedVariables false
set_option linter.unusedSimpArgs false
namespace Go.Ev

section
variable {P : Program} {w : World}
theorem run_und {t : TypeId} {d : TypeDesc} (h : P.underlying t = some d) : (underlying t).run P w = .ok d w := by simp [underlying, h]
theorem run_ti {t : TypeId} {i : TypeInfo} (h : P.info? t = some i) : (typeInfo t).run P w = .ok i w := by simp [typeInfo, h]
theorem run_size {t : TypeId} {n : Nat} (h : sizeT P t = some n) : (sizeOf t).run P w = .ok n w := by
  unfold sizeT at h
  cases hi : P.info? t with
  | none => rw [hi] at h; simp at h
  | some i => rw [hi] at h; simp at h; simp [sizeOf, run_ti hi, h]
theorem run_zero {t : TypeId} {v : Value} (h : zeroT P t = some v) : (zeroValue t).run P w = .ok v w := by
  unfold zeroT at h
  cases hi : P.info? t with
  | none => rw [hi] at h; simp at h
  | some i =>
    rw [hi] at h
    simp only at h
    cases hz : i.zero with
    | none => rw [hz] at h; simp at h
    | some z =>
      rw [hz] at h
      simp only at h
      cases hf : flat z with
      | false => rw [hf] at h; simp at h
      | true => rw [hf] at h; simp at h; subst h; simp [zeroValue, run_ti hi, hz]
theorem zero_flat {t : TypeId} {v : Value} (h : zeroT P t = some v) : flat v = true := by
  unfold zeroT at h
  cases hi : P.info? t with
  | none => rw [hi] at h; simp at h
  | some i =>
    rw [hi] at h
    simp only at h
    cases hz : i.zero with
    | none => rw [hz] at h; simp at h
    | some z =>
      rw [hz] at h
      simp only at h
      cases hf : flat z with
      | false => rw [hf] at h; simp at h
      | true => rw [hf] at h; simp at h; subst h; exact hf
theorem run_agg1 {t : TypeId} (h : tk P t = some .one) : (isAgg t).run P w = .ok false w := by
  unfold tk at h
  cases hu : P.underlying t with
  | none => rw [hu] at h; simp at h
  | some d =>
    rw [hu] at h
    cases d <;> simp only at h <;> first
      | (simp [isAgg, run_und hu]; done)
      | (split at h <;> simp at h)
theorem run_aggn {t : TypeId} {n : Nat} (h : tk P t = some (.many n)) : (isAgg t).run P w = .ok true w ∧ sizeT P t = some n := by
  unfold tk at h
  cases hu : P.underlying t with
  | none => rw [hu] at h; simp at h
  | some d =>
    rw [hu] at h
    cases d <;> simp only at h <;> first
      | (simp at h; done)
      | (split at h
         · rename_i i hi; simp at h; subst h; exact ⟨by simp [isAgg, run_und hu], by simp [sizeT, hi]⟩
         · simp at h)
end

theorem add_none (b o n : Nat) : (⟨b, o, none⟩ : Addr).add n = ⟨b, o + n, none⟩ := by
  unfold Addr.add; split <;> simp_all

/-- A row, read. -/
theorem Rel.row {P : Program} {ρ : Ren} {h : Hp} {w : World} (hR : Rel P ρ h w) {a : Nat} {cs : Tri Value} {n : Nat} {e : TypeId} {opn fz : Bool} {l : Loc}
    (ha : h a = some (.row cs n e opn fz)) (hl : ρ a = some l) : ObjRel P ρ l (.row cs n e opn fz) (w.heap[l.b]?.getD default) ∧ ∃ c fr, w.heap[l.b]? = some (.cells c e fr) := by
  obtain ⟨l', ob, e1, e2, e3⟩ := hR.obj _ _ ha
  rw [hl] at e1; cases e1
  rw [e2]
  refine ⟨e3, ?_⟩
  obtain ⟨c, fr, e4, _⟩ := e3
  exact ⟨c, fr, by rw [e4]⟩
theorem Rel.cell {P : Program} {ρ : Ren} {h : Hp} {w : World} (hR : Rel P ρ h w) {a : Nat} {cs : Tri Value} {n : Nat} {e : TypeId} {opn fz : Bool} {l : Loc}
    (ha : h a = some (.row cs n e opn fz)) (hl : ρ a = some l) (i : Nat) (hi : i < n) : ∃ v v', cs.get i = some v ∧ w.cell? ⟨l.b, l.o + i, none⟩ = some v' ∧ VRel ρ v v' := by
  obtain ⟨l', ob, e1, e2, e3⟩ := hR.obj _ _ ha
  rw [hl] at e1; cases e1
  obtain ⟨c, fr, e4, e5, _⟩ := e3
  obtain ⟨v, v', f1, f2, f3⟩ := e5 i hi
  exact ⟨v, v', f1, by simp [World.cell?, e2, e4, f2], f3⟩

/-- Cells of a row, read. -/
theorem Rel.cells {P : Program} {ρ : Ren} {h : Hp} {w : World} (hR : Rel P ρ h w) {a : Nat} {cs : Tri Value} {n : Nat} {e : TypeId} {opn fz : Bool} {l : Loc}
    (ha : h a = some (.row cs n e opn fz)) (hl : ρ a = some l) {m o : Nat} {vs : List Value} (hm : o + m ≤ n) (hc : cellsFrom cs m o = some vs) :
    ∃ vs', (loadCells ⟨l.b, l.o + o, none⟩ m).run P w = .ok ⟨vs'⟩ w ∧ LRel ρ vs vs' := by
  obtain ⟨hlen, hg⟩ := cellsFrom_get cs m o vs hc
  have hex : ∀ m' (hm' : m' ≤ m), ∃ vs' : List Value, vs'.length = m' ∧ ∀ j, j < m' → ∃ v v', vs[j]? = some v ∧ vs'[j]? = some v' ∧ w.cell? ⟨l.b, l.o + o + j, none⟩ = some v' ∧ VRel ρ v v' := by
    intro m'
    induction m' with
    | zero => intro _; exact ⟨[], rfl, fun j hj => by omega⟩
    | succ m' ih =>
      intro hm'
      obtain ⟨vs', h1, h2⟩ := ih (by omega)
      obtain ⟨v, v', f1, f2, f3⟩ := hR.cell ha hl (o + m') (by omega)
      refine ⟨vs' ++ [v'], by simp [h1], fun j hj => ?_⟩
      by_cases hj' : j < m'
      · obtain ⟨u, u', g1, g2, g3, g4⟩ := h2 j hj'
        exact ⟨u, u', g1, by rw [List.getElem?_append_left (by omega)]; exact g2, g3, g4⟩
      · have : j = m' := by omega
        subst this
        refine ⟨v, v', ?_, ?_, ?_, f3⟩
        · rw [← hg j (by omega)]; exact f1
        · rw [List.getElem?_append_right (by omega)]; simp [h1]
        · rw [Nat.add_assoc]; exact f2
  obtain ⟨vs', h1, h2⟩ := hex m (Nat.le_refl m)
  refine ⟨vs', ?_, ?_⟩
  · subst h1
    apply run_loadCells_list
    intro j v hv
    have hj : j < vs'.length := by
      rcases Nat.lt_or_ge j vs'.length with h | h
      · exact h
      · rw [List.getElem?_eq_none h] at hv; cases hv
    obtain ⟨u, u', g1, g2, g3, g4⟩ := h2 j hj
    rw [hv] at g2; cases g2
    rw [add_none]; exact g3
  · refine LRel.of_get (by omega) fun i v v' e e' => ?_
    have hi : i < m := by
      rcases Nat.lt_or_ge i vs.length with h | h
      · omega
      · rw [List.getElem?_eq_none h] at e; cases e
    obtain ⟨u, u', g1, g2, g3, g4⟩ := h2 i hi
    rw [e] at g1; cases g1
    rw [e'] at g2; cases g2
    exact g4

theorem loadA_sound {P : Program} {ρ : Ren} {h : Hp} {w : World} (hR : Rel P ρ h w) {rd : Rd} (hrd : ∀ a o, rd a = some o → h a = some o)
    {a : Addr} {a' : Addr} {k : TK} {t : TypeId} {v : Value} (hl : loadA rd a k = some v) (ht : tk P t = some k) (hp : VRel ρ (.pointer (some a)) (.pointer (some a'))) :
    ∃ v', (loadVar t a').run P w = .ok v' w ∧ VRel ρ v v' := by
  cases hp with
  | ptr a o l e =>
    unfold loadA at hl
    simp only at hl
    split at hl
    · rename_i cs n e' opn fz hrow
      have hrow := hrd _ _ hrow
      cases k with
      | one =>
        simp only at hl
        split at hl
        · rename_i hlt
          have hlt : o + 1 ≤ n := Nat.le_of_ble_eq_true hlt
          obtain ⟨u, u', f1, f2, f3⟩ := hR.cell hrow e o (by omega)
          rw [hl] at f1; cases f1
          refine ⟨u', ?_, f3⟩
          simp [loadVar, run_agg1 ht, f2]
        · cases hl
      | many m =>
        simp only at hl
        split at hl
        · rename_i hlt
          have hlt : o + m ≤ n := Nat.le_of_ble_eq_true hlt
          split at hl
          · rename_i vs hvs
            cases hl
            obtain ⟨vs', g1, g2⟩ := hR.cells hrow e hlt hvs
            obtain ⟨h1, h2⟩ := run_aggn (w := w) ht
            refine ⟨.agg ⟨vs'⟩, ?_, .agg _ _ g2⟩
            simp [loadVar, h1, run_size h2, g1]
          · cases hl
        · cases hl
    · cases hl
end Go.Ev

/- The operations that turn nothing, one by one. -/
namespace Go.Ev

/-- What such an operation comes to. -/
def POk (P : Program) (ρ : Ren) (w : World) : PO → Result Next → Prop
  | .val v, r => ∃ v', r = .ok (.value v') w ∧ VRel ρ v v'
  | .new o nv, r => ∃ v' w' ob l, r = .ok (.value v') w' ∧ w'.heap = w.heap.push ob ∧ w'.os = w.os ∧ w'.tape = w.tape ∧ w'.output = w.output ∧
      l.b = w.heap.size ∧ ObjRel P ρ l o ob ∧ ∀ (ρ' : Ren) (a : Nat), ρ' a = some l → VRel ρ' (nv.at a) v'

section
variable {P : Program} {ρ : Ren} {h : Hp} {w : World} {ev : Operand → Option Value} {ev' : Operand → Value} {rd : Rd}

theorem POk.ofSem {po : PO} {s : Sem Value} (hs : ∃ v v', po = .val v ∧ s.run P w = .ok v' w ∧ VRel ρ v v') : POk P ρ w po ((s >>= fun v => pure (Next.value v) : Sem Next).run P w) := by
  obtain ⟨v, v', rfl, h1, h2⟩ := hs
  exact ⟨v', by simp [h1], h2⟩

theorem bool_rel {b : Bool} {x : Value} (hx : VRel ρ (.bool b) x) : x = .bool b := by cases hx; rfl
theorem int_rel {k : IntKind} {n : Int} {x : Value} (hx : VRel ρ (.int k n) x) : x = .int k n := by cases hx; rfl
theorem string_rel {s : ByteArray} {x : Value} (hx : VRel ρ (.string s) x) : x = .string s := by cases hx; rfl

theorem cellsV_rel {v v' : Value} (hv : VRel ρ v v') : LRel ρ (cellsV v) v'.cells.toList := by
  cases hv <;> first
    | (simp only [cellsV, Value.cells]; exact .cons _ _ _ _ (by constructor <;> assumption) .nil)
    | (simp only [cellsV, Value.cells]; assumption)
theorem cellsV_cells (v : Value) : v.cells.toList = cellsV v := by cases v <;> rfl
theorem row_new {l : Loc} {vs vs' : List Value} {e : TypeId} {n : Nat} (hb : l.o = 0) (hv : LRel ρ vs vs') (hn : n = vs.length) : ObjRel P ρ l (.row (rowOf vs) n e false false) (.cells ⟨vs'⟩ e) := by
  refine ⟨⟨vs'⟩, (0, 0), rfl, fun i hi => ?_, fun i _ => by simp, fun _ => rfl, fun _ => ⟨hb, ?_⟩, fun h => by cases h⟩
  · have hi' : i < vs.length := by omega
    obtain ⟨v', e1, e2⟩ := hv.get i vs[i] (List.getElem?_eq_getElem hi')
    refine ⟨vs[i], v', by rw [rowOf_get, List.getElem?_eq_getElem hi'], ?_, e2⟩
    rw [hb, Nat.zero_add]; simpa using e1
  · simp [hv.length, hn]

theorem zip_fold (off : Nat) : ∀ (vs : List Value) (k : Nat) (cs : Array Value), ((vs.zipIdx k).foldl (fun cs (c, j) => cs.setIfInBounds (off + j) c) cs).size = cs.size ∧
    ∀ j : Nat, ((vs.zipIdx k).foldl (fun cs (c, j) => cs.setIfInBounds (off + j) c) cs)[j]? = if off + k ≤ j ∧ j < off + k + vs.length ∧ j < cs.size then vs[j - off - k]? else cs[j]? := by
  intro vs
  induction vs with
  | nil => intro k cs; refine ⟨rfl, fun j => ?_⟩; rw [if_neg (by simp; omega)]; rfl
  | cons v vs ihv =>
    intro k cs
    simp only [List.zipIdx_cons, List.foldl_cons]
    obtain ⟨q1, q2⟩ := ihv (k + 1) (cs.setIfInBounds (off + k) v)
    refine ⟨by rw [q1]; simp, fun j => ?_⟩
    rw [q2 j]
    by_cases c1 : off + (k + 1) ≤ j ∧ j < off + (k + 1) + vs.length ∧ j < cs.size
    · rw [if_pos (by simpa using c1), if_pos (by simp; omega)]
      have : j - off - k = (j - off - (k + 1)) + 1 := by omega
      rw [this]; simp
    · rw [if_neg (by simpa using c1), Array.getElem?_setIfInBounds]
      by_cases c2 : off + k = j
      · subst c2
        by_cases c3 : off + k < cs.size
        · simp [c3]
        · simp [c3]
      · rw [if_neg c2, if_neg (by simp; omega)]

theorem fill_sound {place : Nat → Option (Nat × Nat)} : ∀ (parts : List (Nat × Operand)) (cells cells' r : List Value),
    (∀ x ∈ parts.map (·.2), ∀ v, ev x = some v → VRel ρ v (ev' x)) → LRel ρ cells cells' → partsF ev place parts cells = some r →
    ∃ r', Instr.fill place ⟨cells'⟩ (parts.map fun p => (p.1, ev' p.2)) = some ⟨r'⟩ ∧ LRel ρ r r' := by
  intro parts
  induction parts with
  | nil => intro cells cells' r _ hl h; simp [partsF] at h; subst h; exact ⟨cells', rfl, hl⟩
  | cons p parts ih =>
    obtain ⟨i, x⟩ := p
    intro cells cells' r hev hl h
    simp only [partsF] at h
    split at h
    · rename_i v off size hx hp
      split at h
      · rename_i hs
        have hs : (cellsV v).length = size + 1 := Nat.eq_of_beq_eq_true hs
        split at h
        · rename_i q ho
          have hv := hev x (by simp) v hx
          have hc := cellsV_rel hv
          have hlen := hc.length
          have hlen' := hl.length
          obtain ⟨g1, g2⟩ := overL_get _ _ _ _ ho
          have hfit : off + (cellsV v).length ≤ cells.length := by
            rcases overL_eq _ _ _ _ ho with h1 | h1
            · exact h1
            · rw [h1] at hs; simp at hs
          have hcs : (ev' x).cells.size = size + 1 := by rw [← Array.length_toList, hlen, hs]
          have hfold : (ev' x).cells.zipIdx.foldl (fun (cs : Array Value) (c, j) => cs.setIfInBounds (off + j) c) (⟨cells'⟩ : Array Value) = ((ev' x).cells.toList.zipIdx 0).foldl (fun (cs : Array Value) (c, j) => cs.setIfInBounds (off + j) c) (⟨cells'⟩ : Array Value) := by
            rw [← Array.foldl_toList, Array.toList_zipIdx]
          obtain ⟨z1, z2⟩ := zip_fold off (ev' x).cells.toList 0 ⟨cells'⟩
          have hq : LRel ρ q (((ev' x).cells.toList.zipIdx 0).foldl (fun (cs : Array Value) (c, j) => cs.setIfInBounds (off + j) c) (⟨cells'⟩ : Array Value)).toList := by
            refine LRel.of_get (by rw [Array.length_toList, z1]; simp; omega) fun j v1 v2 e1 e2 => ?_
            rw [Array.getElem?_toList, z2 j] at e2
            rw [g2 j] at e1
            have hj : j < cells.length := by
              rcases Nat.lt_or_ge j q.length with h | h
              · omega
              · have := g2 j; rw [List.getElem?_eq_none h] at this; rw [← this] at e1; cases e1
            by_cases c : off ≤ j ∧ j < off + (cellsV v).length
            · rw [if_pos c] at e1
              rw [if_pos (by simp; omega)] at e2
              obtain ⟨v2', f1, f2⟩ := hc.get _ _ e1
              have : j - off - 0 = j - off := by omega
              rw [this, f1] at e2; cases e2; exact f2
            · rw [if_neg c] at e1
              rw [if_neg (by simp; omega)] at e2
              obtain ⟨v2', f1, f2⟩ := hl.get _ _ e1
              simp at e2; rw [f1] at e2; cases e2; exact f2
          obtain ⟨r', k1, k2⟩ := ih _ _ r (fun y hy => hev y (by simp at hy ⊢; exact .inr hy)) hq h
          refine ⟨r', ?_, k2⟩
          simp only [List.map_cons, Instr.fill, hp]
          rw [if_neg (by simp [hcs]; omega), hfold]
          exact k1
        · cases h
      · cases h
    · cases h
end
end Go.Ev

/- The operations that turn nothing, one by one. -/
namespace Go.Ev
section
variable {P : Program} {ρ : Ren} {h : Hp} {w : World} {ev : Operand → Option Value} {ev' : Operand → Value} {rd : Rd} {o : Oper} {po : PO}

theorem p_move {x : Operand} (hop : o.op = .move x ∨ o.op = .assign x) (hp : pureOp P ev rd o = some po) (hev : ∀ v, ev x = some v → VRel ρ v (ev' x)) :
    POk P ρ w po ((execOp ev' o).run P w) := by
  have : (match ev x with | some v => some (PO.val v) | none => none) = some po := by
    rcases hop with hop | hop <;> (simp only [pureOp, hop] at hp; exact hp)
  have he : (execOp ev' o) = pure (.value (ev' x)) := by rcases hop with hop | hop <;> simp only [execOp, hop]
  rw [he]
  split at this
  · rename_i v hv; cases this; exact ⟨_, rfl, hev v hv⟩
  · cases this
theorem p_pick {c a b : Operand} (hop : o.op = .pick c a b) (hp : pureOp P ev rd o = some po) (hc : ∀ v, ev c = some v → VRel ρ v (ev' c))
    (ha : ∀ v, ev a = some v → VRel ρ v (ev' a)) (hb : ∀ v, ev b = some v → VRel ρ v (ev' b)) :
    POk P ρ w po ((execOp ev' o).run P w) := by
  simp only [pureOp, hop] at hp
  simp only [execOp, hop]
  split at hp
  · rename_i hcv
    have := bool_rel (hc _ hcv)
    split at hp
    · rename_i v hv; cases hp; exact ⟨ev' a, by simp [this, asBool], ha v hv⟩
    · cases hp
  · rename_i hcv
    have := bool_rel (hc _ hcv)
    split at hp
    · rename_i v hv; cases hp; exact ⟨ev' b, by simp [this, asBool], hb v hv⟩
    · cases hp
  · cases hp
theorem p_alloc {t : TypeId} (hop : o.op = .alloc t) (hp : pureOp P ev rd o = some po) : POk P ρ w po ((execOp ev' o).run P w) := by
  simp only [pureOp, hop] at hp
  simp only [execOp, hop]
  split at hp
  · rename_i z hz
    cases hp
    have hf := flat_rel ρ (zero_flat hz)
    refine ⟨.pointer (some ⟨w.heap.size, 0, none⟩), w.alloc (.cells z.cells t), .cells z.cells t, ⟨w.heap.size, 0, 0, 0⟩, by simp [Instr.alloc, run_zero hz, newVar, newRow], rfl, rfl, rfl, rfl, rfl, ?_, ?_⟩
    · exact row_new rfl (cellsV_rel hf) rfl
    · intro ρ' a ha; simpa [NewV.at] using VRel.ptr a 0 _ ha
  · cases hp
theorem p_box {t : TypeId} {x : Operand} (hop : o.op = .box t x) (hp : pureOp P ev rd o = some po) (hx : ∀ v, ev x = some v → VRel ρ v (ev' x)) : POk P ρ w po ((execOp ev' o).run P w) := by
  simp only [pureOp, hop] at hp
  simp only [execOp, hop]
  split at hp
  · rename_i v hv
    cases hp
    have hf := hx v hv
    refine ⟨.pointer (some ⟨w.heap.size, 0, none⟩), w.alloc (.cells (ev' x).cells t), .cells (ev' x).cells t, ⟨w.heap.size, 0, 0, 0⟩, by simp [Instr.box, newVar, newRow], rfl, rfl, rfl, rfl, rfl, ?_, ?_⟩
    · exact row_new rfl (cellsV_rel hf) rfl
    · intro ρ' a ha; simpa [NewV.at] using VRel.ptr a 0 _ ha
  · cases hp
theorem mapM_places {w : World} : ∀ (fs : List Field) , (∀ f ∈ fs, (sizeT P f.type).isSome) →
    ∃ ps : List (Nat × Nat), (fs.mapM (fun f => (do pure (f.offset, ← sizeOf f.type) : Sem (Nat × Nat)))).run P w = .ok ps w ∧ ∀ i : Nat, ps[i]? = placeF P fs i := by
  intro fs
  induction fs with
  | nil => intro _; exact ⟨[], by simp, fun i => by simp [placeF, nth]⟩
  | cons f fs ih =>
    intro hs
    obtain ⟨ps, h1, h2⟩ := ih (fun g hg => hs g (by simp [hg]))
    have := hs f (by simp)
    cases hf : sizeT P f.type with
    | none => rw [hf] at this; simp at this
    | some n =>
      refine ⟨(f.offset, n) :: ps, by rw [List.mapM_cons]; simp only [Sem.run_bind, run_size hf, Result.andThen_ok, Sem.run_pure, h1], fun i => ?_⟩
      cases i with
      | zero => simp [placeF, nth, hf]
      | succ i => simpa [placeF, nth] using h2 i

theorem sizesOk_all : ∀ (fs : List Field), sizesOk P fs = true → ∀ f ∈ fs, (sizeT P f.type).isSome := by
  intro fs
  induction fs with
  | nil => intro _ f hf; cases hf
  | cons g fs ih =>
    intro h f hf
    simp only [sizesOk] at h
    split at h
    · rename_i n hn
      rcases List.mem_cons.1 hf with rfl | hf
      · simp [hn]
      · exact ih h f hf
    · cases h
theorem p_build {t : TypeId} {parts : Array (Nat × Operand)} (hop : o.op = .build t parts) (hp : pureOp P ev rd o = some po)
    (hx : ∀ x ∈ parts.toList.map (·.2), ∀ v, ev x = some v → VRel ρ v (ev' x)) : POk P ρ w po ((execOp ev' o).run P w) := by
  simp only [pureOp, hop] at hp
  simp only [execOp, hop]
  apply POk.ofSem
  split at hp
  · rename_i z fs hz hu
    split at hp
    · rename_i hok
      split at hp
      · rename_i l hl
        cases hp
        obtain ⟨ps, g1, g2⟩ := mapM_places (w := w) fs.toList (sizesOk_all _ hok)
        obtain ⟨r', h1, h2⟩ := fill_sound parts.toList (cellsV z) z.cells.toList l hx (cellsV_rel (flat_rel ρ (zero_flat hz))) hl
        refine ⟨_, .agg ⟨r'⟩, rfl, ?_, .agg _ _ h2⟩
        have hpl : placeF P fs.toList = fun i : Nat => (⟨ps⟩ : Array (Nat × Nat))[i]? := by
          funext i
          simpa using (g2 i).symm
        rw [hpl] at h1
        have h1' : Instr.fill (fun i => (⟨ps⟩ : Array (Nat × Nat))[i]?) z.cells (parts.toList.map fun p => (p.1, ev' p.2)) = some ⟨r'⟩ := h1
        have hm : (fs.mapM (fun f => (do pure (f.offset, ← sizeOf f.type) : Sem (Nat × Nat)))).run P w = .ok (⟨ps⟩ : Array (Nat × Nat)) w := by
          rw [Array.mapM_eq_mapM_toList]
          simp only [Sem.run_map, g1, Result.andThen_ok]
        simp only [Instr.build, Sem.run_bind, run_zero hz, Result.andThen_ok, run_und hu, hm, Array.toList_map, h1', Sem.run_pure]
      · cases hp
    · cases hp
  · rename_i z n e hz hu
    split at hp
    · rename_i sz hsz
      split at hp
      · rename_i l hl
        cases hp
        obtain ⟨r', h1, h2⟩ := fill_sound parts.toList (cellsV z) z.cells.toList l hx (cellsV_rel (flat_rel ρ (zero_flat hz))) hl
        refine ⟨_, .agg ⟨r'⟩, rfl, ?_, .agg _ _ h2⟩
        have h1' : Instr.fill (fun i => some (i * sz, sz)) z.cells (parts.toList.map fun p => (p.1, ev' p.2)) = some ⟨r'⟩ := h1
        simp [Instr.build, run_zero hz, run_und hu, run_size hsz, h1']
      · cases hp
    · cases hp
  · cases hp
theorem elemZ_eq {e : TypeId} {sz : Nat} {z : List Value} (h : elemZ P e = some (sz, z)) : sizeT P e = some sz ∧ z.length = sz ∧ LRel ρ z z ∧ 0 < sz ∧ ∃ v, zeroT P e = some v ∧ z = cellsV v := by
  unfold elemZ at h
  split at h
  · rename_i sz' z' h1 h2
    split at h
    · rename_i hb
      cases h
      refine ⟨h1, Nat.eq_of_beq_eq_true hb, ?_, Nat.succ_pos _, z', h2, rfl⟩
      have := cellsV_rel (flat_rel ρ (zero_flat h2))
      rwa [cellsV_cells] at this
    · cases h
  · cases h
theorem range_rep (n : Nat) (z : Array Value) : ((Array.range (n * z.size)).map fun i => z[i % z.size]!) = ⟨repL n z.toList⟩ := by
  apply Array.ext'
  apply List.ext_getElem?
  intro i
  simp only [Array.toList_map, Array.toList_range]
  by_cases h : i < n * z.size
  · have hpos : 0 < z.size := by
      rcases Nat.eq_zero_or_pos z.size with h0 | h0
      · rw [h0] at h; simp at h
      · exact h0
    rw [repL_get _ _ _ (by simpa using h)]
    have hm := Nat.mod_lt i hpos
    simp [List.getElem?_range h, hm, getElem!_pos]
  · rw [List.getElem?_eq_none (by simp; omega), List.getElem?_eq_none (by rw [repL_length]; simp; omega)]
theorem p_buildSlice {t : TypeId} {n : Nat} {parts : Array (Nat × Operand)} (hop : o.op = .buildSlice t n parts) (hp : pureOp P ev rd o = some po)
    (hx : ∀ x ∈ parts.toList.map (·.2), ∀ v, ev x = some v → VRel ρ v (ev' x)) : POk P ρ w po ((execOp ev' o).run P w) := by
  simp only [pureOp, hop] at hp
  simp only [execOp, hop]
  split at hp
  · rename_i e hu
    split at hp
    · rename_i sz z hz
      obtain ⟨hsz, hlen, hzz, hpos, zv, hzv, hzc⟩ := elemZ_eq (ρ := ρ) hz
      split at hp
      · rename_i hle
        have hle : n * sz ≤ 100000 := Nat.le_of_ble_eq_true hle
        split at hp
        · rename_i l hl
          cases hp
          have hrep : ∀ m, LRel ρ (repL m z) (repL m z) := by
            intro m
            induction m with
            | zero => exact .nil
            | succ m ih => exact hzz.append ih
          obtain ⟨r', h1, h2⟩ := fill_sound parts.toList (repL n z) (repL n z) l hx (hrep n) hl
          have h1' : Instr.fill (fun i => some (i * sz, sz)) (⟨repL n z⟩ : Array Value) (parts.toList.map fun p => (p.1, ev' p.2)) = some ⟨r'⟩ := h1
          have hcells : (Array.map (fun i => (if n * sz = 0 then (#[] : Array Value) else zv.cells)[i % (if n * sz = 0 then (#[] : Array Value) else zv.cells).size]!) (Array.range (n * sz))) = (⟨repL n z⟩ : Array Value) := by
            by_cases h0 : n * sz = 0
            · simp only [h0, if_true]
              have : (repL n z) = [] := by
                apply List.eq_nil_of_length_eq_zero; rw [repL_length, hlen]; exact h0
              rw [this]; simp
            · simp only [h0, if_false]
              have hs : zv.cells.size = sz := by rw [← hlen, hzc, ← cellsV_cells]; simp
              have := range_rep n zv.cells
              rw [hs] at this ⊢
              rw [this, hzc, ← cellsV_cells]
          refine ⟨.slice (some ⟨w.heap.size, 0, none⟩) n n, w.alloc (.cells ⟨r'⟩ e), .cells ⟨r'⟩ e, ⟨w.heap.size, 0, 0, 0⟩, ?_, rfl, rfl, rfl, rfl, rfl, ?_, ?_⟩
          · simp only [Instr.buildSlice, Sem.run_bind, run_und hu, Result.andThen_ok, run_size hsz]
            rw [if_neg (by omega)]
            by_cases h0 : n * sz = 0
            · simp only [h0, if_true, Sem.run_pure, Result.andThen_ok] at hcells ⊢
              simp only [hcells, Array.toList_map, h1', Sem.run_bind, Sem.run_pure, newRow, run_newObj, Result.andThen_ok, World.alloc_eq]
            · simp only [h0, if_false, Sem.run_bind, Sem.run_pure, Result.andThen_ok, run_zero hzv] at hcells ⊢
              simp only [hcells, Array.toList_map, h1', Sem.run_bind, Sem.run_pure, newRow, run_newObj, Result.andThen_ok, World.alloc_eq]
          · exact row_new rfl h2 rfl
          · intro ρ' a ha
            have hn : n ≤ n * sz := Nat.le_mul_of_pos_right n hpos
            have : n < OPEN := by simp only [OPEN]; omega
            simpa [NewV.at] using VRel.sl a 0 ⟨w.heap.size, 0, 0, 0⟩ _ n n ha this (Nat.le_refl n) (.inl rfl)
        · cases hp
      · cases hp
    · cases hp
  · cases hp
end
end Go.Ev

/- Comparisons and sums. -/
namespace Go.Ev
section
variable {P : Program} {ρ : Ren} {h : Hp} {w : World} {rd : Rd}

theorem part_sound {t : TypeId} {cs : List Value} {cs' : Array Value} {off : Nat} {v : Value} (hv : partV P t cs off = some v) (hr : LRel ρ cs cs'.toList) :
    ∃ v', (part t cs' off).run P w = .ok v' w ∧ VRel ρ v v' := by
  unfold partV at hv
  split at hv
  · rename_i ht
    rw [nth_eq] at hv
    obtain ⟨v', e1, e2⟩ := hr.get _ _ hv
    refine ⟨v', ?_, e2⟩
    rw [Array.getElem?_toList] at e1
    simp [part, run_agg1 ht, e1]
  · rename_i n ht
    split at hv
    · rename_i l hl
      obtain ⟨d1, d2⟩ := dropL_eq _ _ _ hl
      split at hv
      · rename_i r hr'
        obtain ⟨t1, t2⟩ := takeL_eq _ _ _ hr'
        cases hv
        obtain ⟨a1, a2⟩ := run_aggn (w := w) ht
        refine ⟨.agg (cs'.extract off (off + n)), by simp [part, a1, run_size a2], ?_⟩
        have : cs'.extract off (off + n) = ⟨(cs'.toList.drop off).take n⟩ := by
          apply Array.ext'
          simp
        rw [this]
        refine .agg _ _ (LRel.of_get ?_ fun i v v' e e' => ?_)
        · have := hr.length
          rw [t1, d1]; simp at this ⊢; omega
        · rw [t1, d1] at e
          rw [List.getElem?_take] at e e'
          split at e
          · rename_i hi
            rw [List.getElem?_drop] at e
            obtain ⟨v2, f1, f2⟩ := hr.get _ _ e
            rw [if_pos hi, List.getElem?_drop, f1] at e'
            cases e'; exact f2
          · cases e
      · cases hv
    · cases hv
  · cases hv

theorem stringish_no {b o : Nat} {c : Array Value} {e : TypeId} (hb : w.heap[b]? = some (.cells c e (0, 0))) : (stringish ⟨b, o, none⟩).run P w = .ok false w := by
  simp [stringish, World.frozen?, World.shape?, hb]

theorem row_addr (hR : Rel P ρ h w) {a : Nat} {cs : Tri Value} {n : Nat} {e : TypeId} {opn : Bool} {l : Loc}
    (ha : h a = some (.row cs n e opn false)) (hl : ρ a = some l) : ∃ c, w.heap[l.b]? = some (.cells c e (0, 0)) := by
  obtain ⟨l', ob, e1, e2, e3⟩ := hR.obj _ _ ha
  rw [hl] at e1; cases e1
  obtain ⟨c, fr, e4, _, _, e5, _⟩ := e3
  exact ⟨c, by rw [e2, e4, e5 rfl]⟩

theorem sameAddr_sound (hR : Rel P ρ h w) (hrd : ∀ a o, rd a = some o → h a = some o) {a1 o1 a2 o2 : Nat} {l1 l2 : Loc} (e1 : ρ a1 = some l1) (e2 : ρ a2 = some l2) {r : Bool}
    (hq : eqAddrs rd ⟨a1, o1, none⟩ ⟨a2, o2, none⟩ = some r) :
    (sameAddr ⟨l1.b, l1.o + o1, none⟩ ⟨l2.b, l2.o + o2, none⟩).run P w = .ok r w := by
  unfold eqAddrs at hq
  split at hq
  · rename_i hb
    have hb : a1 = a2 := Nat.eq_of_beq_eq_true hb
    subst hb
    rw [e1] at e2; cases e2
    split at hq
    · cases hq
      simp only [sameAddr, beq_self_eq_true, if_true, Sem.run_pure]
      congr 1
      by_cases ho : o1 = o2
      · subst ho; simp
      · have : Nat.beq o1 o2 = false := by rw [← Bool.not_eq_true, Nat.beq_eq]; exact ho
        rw [this]
        simp; omega
    · cases hq
  · rename_i hb
    have hb : a1 ≠ a2 := fun e => by subst e; simp at hb
    split at hq
    · rename_i r1 r2
      cases hq
      obtain ⟨c1, g1⟩ := row_addr hR (hrd _ _ r1) e1
      obtain ⟨c2, g2⟩ := row_addr hR (hrd _ _ r2) e2
      have hne : l1.b ≠ l2.b := hR.inj _ _ _ _ _ _ (hrd _ _ r1) (hrd _ _ r2) e1 e2 hb
      have hne' : (l1.b == l2.b) = false := by simpa using hne
      obtain ⟨t1, s1⟩ : ∃ t1, w.shape? l1.b = some (t1, c1.size) := ⟨_, by simp only [World.shape?, g1]; rfl⟩
      obtain ⟨t2, s2⟩ : ∃ t2, w.shape? l2.b = some (t2, c2.size) := ⟨_, by simp only [World.shape?, g2]; rfl⟩
      have f1 : ∀ o : Nat, w.frozen? ⟨l1.b, o, none⟩ = false := fun o => by simp [World.frozen?, g1]
      have f2 : ∀ o : Nat, w.frozen? ⟨l2.b, o, none⟩ = false := fun o => by simp [World.frozen?, g2]
      simp [sameAddr, hne', run_frozen, f1, f2, noView, viewAt, s1, s2, mayBeOne, stringish_no g1, stringish_no g2]
    · cases hq

theorem eqFs_sound {eq : TypeId → Value → Value → Option Bool} {d : Nat} (ih : ∀ (t : TypeId) (x y x' y' : Value) (r : Bool), VRel ρ x x' → VRel ρ y y' → eq t x y = some r → (Op.equalIn d t x' y').run P w = .ok r w)
    {xs ys : List Value} {xs' ys' : Array Value} (hx : LRel ρ xs xs'.toList) (hy : LRel ρ ys ys'.toList) : ∀ (fs : List Field) (r : Bool), eqFs P eq fs xs ys = some r → (Op.eqFields d xs' ys' fs).run P w = .ok r w := by
  intro fs
  induction fs with
  | nil => intro r hq; simp [eqFs] at hq; subst hq; simp [Op.eqFields]
  | cons f fs ihf =>
    intro r hq
    simp only [eqFs] at hq
    split at hq
    · rename_i hn
      have hn : f.name = "_" := of_decide_eq_true hn
      simp only [Op.eqFields, hn, ne_eq, not_true_eq_false, if_false]
      exact ihf r hq
    · rename_i hn
      have hn : ¬ f.name = "_" := of_decide_eq_false hn
      simp only [Op.eqFields, ne_eq, hn, not_false_eq_true, if_true]
      split at hq
      · rename_i x y h1 h2
        obtain ⟨x', p1, p2⟩ := part_sound (w := w) h1 hx
        obtain ⟨y', q1, q2⟩ := part_sound (w := w) h2 hy
        split at hq
        · rename_i he
          have := ih _ _ _ _ _ _ p2 q2 he
          simp only [Sem.run_bind, p1, q1, this, Result.andThen_ok, Bool.not_true, Bool.false_eq_true, if_false]
          exact ihf r hq
        · rename_i he
          cases hq
          have := ih _ _ _ _ _ _ p2 q2 he
          simp only [Sem.run_bind, p1, q1, this, Result.andThen_ok, Bool.not_false, if_true, Sem.run_pure]
        · cases hq
      · cases hq

theorem eqBoolV_sound {d : Nat} {t : TypeId} {x y x' y' : Value} {r : Bool} (hu : P.underlying t = some .bool) (hx : VRel ρ x x') (hy : VRel ρ y y') (hq : eqBoolV x y = some r) : (Op.equalIn (d + 1) t x' y').run P w = .ok r w := by
  unfold eqBoolV at hq
  split at hq
  · rename_i a b
    cases hq
    rw [bool_rel hx, bool_rel hy, run_equalIn_bool' w d t a b hu]
    cases a <;> cases b <;> rfl
  · cases hq
theorem eqIntV_sound {d : Nat} {t : TypeId} {k0 : IntKind} {x y x' y' : Value} {r : Bool} (hu : P.underlying t = some (.int k0)) (hx : VRel ρ x x') (hy : VRel ρ y y') (hq : eqIntV x y = some r) : (Op.equalIn (d + 1) t x' y').run P w = .ok r w := by
  unfold eqIntV at hq
  split at hq
  · rename_i k a k' b
    split at hq
    · rename_i hk
      have hk := eqK_eq.1 hk
      subst hk
      cases hq
      rw [int_rel hx, int_rel hy, run_equalIn_int w d t k k0 a b hu, eqI_eq]
      congr 1
    · cases hq
  · cases hq
theorem eqStrV_sound {d : Nat} {t : TypeId} {x y x' y' : Value} {r : Bool} (hu : P.underlying t = some .string) (hx : VRel ρ x x') (hy : VRel ρ y y') (hq : eqStrV x y = some r) : (Op.equalIn (d + 1) t x' y').run P w = .ok r w := by
  unfold eqStrV at hq
  split at hq
  · rename_i a b
    cases hq
    rw [string_rel hx, string_rel hy, run_equalIn_string w d t a b hu, eqBytes_eq, ByteArray.toList_eq, ByteArray.toList_eq]
  · cases hq
theorem eqSlV_sound {d : Nat} {t : TypeId} {e : TypeId} {x y x' y' : Value} {r : Bool} (hu : P.underlying t = some (.slice e)) (hx : VRel ρ x x') (hy : VRel ρ y y') (hq : eqSlV x y = some r) : (Op.equalIn (d + 1) t x' y').run P w = .ok r w := by
  unfold eqSlV at hq
  split at hq
  · cases hq
    cases hx
    cases hy <;> simp [Op.equalIn, run_und hu, noneB]
  · cases hq
    cases hy
    cases hx <;> simp [Op.equalIn, run_und hu]
  · cases hq
theorem eqMapV_sound {d : Nat} {t : TypeId} {e k : TypeId} {x y x' y' : Value} {r : Bool} (hu : P.underlying t = some (.map k e)) (hx : VRel ρ x x') (hy : VRel ρ y y') (hq : eqMapV x y = some r) : (Op.equalIn (d + 1) t x' y').run P w = .ok r w := by
  unfold eqMapV at hq
  split at hq
  · cases hq
    cases hx
    cases hy <;> simp [Op.equalIn, run_und hu, noneB]
  · cases hq
    cases hy
    cases hx <;> simp [Op.equalIn, run_und hu]
  · cases hq
theorem eqFnV_sound {d : Nat} {t : TypeId} {ps rs : Array TypeId} {v : Bool} {x y x' y' : Value} {r : Bool} (hu : P.underlying t = some (.func ps rs v)) (hx : VRel ρ x x') (hy : VRel ρ y y') (hq : eqFnV x y = some r) : (Op.equalIn (d + 1) t x' y').run P w = .ok r w := by
  unfold eqFnV at hq
  split at hq
  · cases hq
    cases hx
    cases hy <;> simp [Op.equalIn, run_und hu]
  · cases hq
    cases hx
    cases hy <;> simp [Op.equalIn, run_und hu]
  · cases hq
    cases hy
    cases hx <;> simp [Op.equalIn, run_und hu]
  · cases hq
theorem eqIfN_sound {d : Nat} {t : TypeId} {ms : Array (String × TypeId)} {x y x' y' : Value} {r : Bool} (hu : P.underlying t = some (.interface ms)) (hx : VRel ρ x x') (hy : VRel ρ y y') (hq : eqIfN x y = some r) : (Op.equalIn (d + 1) t x' y').run P w = .ok r w := by
  unfold eqIfN at hq
  split at hq
  · cases hq
    cases hx
    cases hy <;> simp [Op.equalIn, run_und hu]
  · cases hq
    cases hx
    cases hy <;> simp [Op.equalIn, run_und hu]
  · cases hq
    cases hy
    cases hx <;> simp [Op.equalIn, run_und hu]
  · cases hq
theorem eqPtrV_sound (hR : Rel P ρ h w) (hrd : ∀ a o, rd a = some o → h a = some o) {d : Nat} {t : TypeId} {e : TypeId} {x y x' y' : Value} {r : Bool} (hu : P.underlying t = some (.pointer e)) (hx : VRel ρ x x') (hy : VRel ρ y y') (hq : eqPtrV P rd e x y = some r) : (Op.equalIn (d + 1) t x' y').run P w = .ok r w := by
  unfold eqPtrV at hq
  split at hq
  · cases hq
    cases hx
    cases hy <;> simp [Op.equalIn, run_und hu, noneB]
  · cases hq
    cases hy
    cases hx; simp [Op.equalIn, run_und hu]
  · cases hx with
    | ptr a1 o1 l1 e1 =>
      cases hy with
      | ptr a2 o2 l2 e2 =>
        split at hq
        · rename_i n hsz
          have := sameAddr_sound hR hrd e1 e2 hq
          simp [Op.equalIn, run_und hu, run_size hsz, this]
        · cases hq
  · cases hq

theorem eqV_sound (hR : Rel P ρ h w) (hrd : ∀ a o, rd a = some o → h a = some o) : ∀ (d d' : Nat) (t : TypeId) (x y x' y' : Value) (r : Bool), d ≤ d' →
    VRel ρ x x' → VRel ρ y y' → eqV P rd d t x y = some r → (Op.equalIn d' t x' y').run P w = .ok r w := by
  intro d
  induction d with
  | zero => intro d' t x y x' y' r _ _ _ hq; simp [eqV] at hq
  | succ d ih =>
    intro d' t x y x' y' r hd hx hy hq
    obtain ⟨d', rfl⟩ : ∃ k, d' = k + 1 := ⟨d' - 1, by omega⟩
    unfold eqV at hq
    split at hq
    · rename_i hu; exact eqBoolV_sound hu hx hy hq
    · rename_i k hu; exact eqIntV_sound hu hx hy hq
    · rename_i hu; exact eqStrV_sound hu hx hy hq
    · rename_i e hu; exact eqPtrV_sound hR hrd hu hx hy hq
    · rename_i e hu; exact eqSlV_sound hu hx hy hq
    · rename_i k e hu; exact eqMapV_sound hu hx hy hq
    · rename_i ps rs v hu; exact eqFnV_sound hu hx hy hq
    · rename_i ms hu
      split at hq
      · rename_i tx vx ty vy
        cases hx with
        | iface _ _ vx' hvx =>
          cases hy with
          | iface _ _ vy' hvy =>
            split at hq
            · rename_i hne
              cases hq
              have hne : tx ≠ ty := fun e => by subst e; simp at hne
              simp [Op.equalIn, run_und hu, hne]
            · rename_i heq
              have heq : tx = ty := Nat.eq_of_beq_eq_true heq
              subst heq
              split at hq
              · rename_i i hi
                split at hq
                · rename_i hc
                  have := ih d' tx vx vy vx' vy' r (by omega) hvx hvy hq
                  simp [Op.equalIn, run_und hu, run_ti hi, hc, this]
                · cases hq
              · cases hq
      · exact eqIfN_sound hu hx hy hq
    · rename_i fs hu
      split at hq
      · rename_i xs ys
        cases hx with
        | agg xs xs' hxs =>
          cases hy with
          | agg ys ys' hys =>
            split at hq
            · cases hq
            · rename_i hst
              have hfo : P.underlying t = some (.struct (P.fieldsOf t)) := by simp [Program.fieldsOf, hu]
              have hfs : (P.fieldsOf t) = fs := by simp [Program.fieldsOf, hu]
              rw [run_equalIn_struct w d' t ⟨xs'⟩ ⟨ys'⟩ hfo hst, hfs]
              exact eqFs_sound (fun t x y x' y' r a b c => ih d' t x y x' y' r (by omega) a b c) hxs hys fs.toList r hq
      · cases hq
    · cases hq
end
end Go.Ev

/- Sums, and what reads or makes memory. -/
namespace Go.Ev
section
variable {P : Program} {ρ : Ren} {h : Hp} {w : World} {rd : Rd}

theorem bits_lt {k : IntKind} {a : Nat} (h : a < capN k) : a < 2 ^ k.bits := by cases k <;> simp [capN, IntKind.bits] at * <;> omega
theorem land_lt {k : IntKind} {a b : Nat} (h : a < capN k) : Nat.land a b < capN k := Nat.lt_of_le_of_lt (Nat.and_le_left (n := a) (m := b)) h
theorem capN_pow (k : IntKind) : ∃ n, capN k = 2 ^ n := by
  cases k
  · exact ⟨7, rfl⟩
  · exact ⟨15, rfl⟩
  · exact ⟨31, rfl⟩
  · exact ⟨63, rfl⟩
  · exact ⟨8, rfl⟩
  · exact ⟨16, rfl⟩
  · exact ⟨32, rfl⟩
  · exact ⟨64, rfl⟩
theorem lor_lt {k : IntKind} {a b : Nat} (h : a < capN k) (h' : b < capN k) : Nat.lor a b < capN k := by
  obtain ⟨n, e⟩ := capN_pow k
  rw [e] at h h' ⊢; exact Nat.or_lt_two_pow h h'
theorem xor_lt {k : IntKind} {a b : Nat} (h : a < capN k) (h' : b < capN k) : Nat.xor a b < capN k := by
  obtain ⟨n, e⟩ := capN_pow k
  rw [e] at h h' ⊢; exact Nat.xor_lt_two_pow h h'
theorem wrap_small {k : IntKind} {a : Nat} (h : a < capN k) : k.wrap (a : Int) = a := by
  have := wrapF_eq k (.ofNat a)
  simp only [wrapF] at this
  rw [show Nat.ble (Nat.succ a) (capN k) = true from Nat.ble_eq_true_of_le h] at this
  exact this.symm

theorem intOpF_sound {op : BinOp} {k : IntKind} {x y : Int} {v : Value} (hv : intOpF op k x y = some v) (t : TypeId) :
    (binOp op t (.int k x) (.int k y)).run P w = .ok v w := by
  cases op with
  | add => cases hv; rw [show binOp .add t (.int k x) (.int k y) = Op.intArith .add k x y from by simp [binOp]]; simp only [Op.intArith, Sem.run_pure, wrapF_eq]; rfl
  | sub => cases hv; rw [show binOp .sub t (.int k x) (.int k y) = Op.intArith .sub k x y from by simp [binOp]]; simp only [Op.intArith, Sem.run_pure, wrapF_eq]; rfl
  | mul => cases hv; rw [show binOp .mul t (.int k x) (.int k y) = Op.intArith .mul k x y from by simp [binOp]]; simp only [Op.intArith, Sem.run_pure, wrapF_eq]; rfl
  | quo =>
    simp only [intOpF] at hv
    split at hv
    · cases hv
    · rename_i hz; cases hv
      rw [eqI_eq, decide_eq_false_iff_not] at hz
      rw [show binOp .quo t (.int k x) (.int k y) = Op.intDiv .quo k x y from by simp [binOp]]; simp [Op.intDiv, hz, wrapF_eq]
  | rem =>
    simp only [intOpF] at hv
    split at hv
    · cases hv
    · rename_i hz; cases hv
      rw [eqI_eq, decide_eq_false_iff_not] at hz
      rw [show binOp .rem t (.int k x) (.int k y) = Op.intDiv .rem k x y from by simp [binOp]]; simp [Op.intDiv, hz]
  | and =>
    simp only [intOpF] at hv
    split at hv
    · rename_i a b
      split at hv
      · rename_i ha hb
        cases hv
        have ha : a < capN k := Nat.le_of_ble_eq_true ha
        have hb : b < capN k := Nat.le_of_ble_eq_true hb
        rw [show binOp .and t (.int k (.ofNat a)) (.int k (.ofNat b)) = Op.intBits .and k (.ofNat a) (.ofNat b) from by simp [binOp]]
        have e : (BitVec.ofInt k.bits (Int.ofNat a) &&& BitVec.ofInt k.bits (Int.ofNat b)).toNat = Nat.land a b := by
          simp only [Int.ofNat_eq_natCast, BitVec.ofInt_natCast, BitVec.toNat_and, BitVec.toNat_ofNat, Nat.mod_eq_of_lt (bits_lt ha), Nat.mod_eq_of_lt (bits_lt hb)]
          rfl
        simp only [Op.intBits, e, Sem.run_pure]
        rw [Int.ofNat_eq_natCast, wrap_small (land_lt ha)]
      · cases hv
    · cases hv
  | or =>
    simp only [intOpF] at hv
    split at hv
    · rename_i a b
      split at hv
      · rename_i ha hb
        cases hv
        have ha : a < capN k := Nat.le_of_ble_eq_true ha
        have hb : b < capN k := Nat.le_of_ble_eq_true hb
        rw [show binOp .or t (.int k (.ofNat a)) (.int k (.ofNat b)) = Op.intBits .or k (.ofNat a) (.ofNat b) from by simp [binOp]]
        have e : (BitVec.ofInt k.bits (Int.ofNat a) ||| BitVec.ofInt k.bits (Int.ofNat b)).toNat = Nat.lor a b := by
          simp only [Int.ofNat_eq_natCast, BitVec.ofInt_natCast, BitVec.toNat_or, BitVec.toNat_ofNat, Nat.mod_eq_of_lt (bits_lt ha), Nat.mod_eq_of_lt (bits_lt hb)]
          rfl
        simp only [Op.intBits, e, Sem.run_pure]
        rw [Int.ofNat_eq_natCast, wrap_small (lor_lt ha hb)]
      · cases hv
    · cases hv
  | xor =>
    simp only [intOpF] at hv
    split at hv
    · rename_i a b
      split at hv
      · rename_i ha hb
        cases hv
        have ha : a < capN k := Nat.le_of_ble_eq_true ha
        have hb : b < capN k := Nat.le_of_ble_eq_true hb
        rw [show binOp .xor t (.int k (.ofNat a)) (.int k (.ofNat b)) = Op.intBits .xor k (.ofNat a) (.ofNat b) from by simp [binOp]]
        have e : (BitVec.ofInt k.bits (Int.ofNat a) ^^^ BitVec.ofInt k.bits (Int.ofNat b)).toNat = Nat.xor a b := by
          simp only [Int.ofNat_eq_natCast, BitVec.ofInt_natCast, BitVec.toNat_xor, BitVec.toNat_ofNat, Nat.mod_eq_of_lt (bits_lt ha), Nat.mod_eq_of_lt (bits_lt hb)]
          rfl
        simp only [Op.intBits, e, Sem.run_pure]
        rw [Int.ofNat_eq_natCast, wrap_small (xor_lt ha hb)]
      · cases hv
    · cases hv
  | shl => simp [intOpF] at hv
  | shr => simp [intOpF] at hv
  | andNot => simp [intOpF] at hv
  | eql => cases hv; rw [show binOp .eql t (.int k x) (.int k y) = Op.intCmp .eql x y from by simp [binOp]]; simp only [Op.intCmp, Sem.run_pure]; rw [eqI_eq]; congr 1
  | neq => cases hv; rw [show binOp .neq t (.int k x) (.int k y) = Op.intCmp .neq x y from by simp [binOp]]; simp only [Op.intCmp, Sem.run_pure]; rw [eqI_eq]; by_cases e : x = y <;> simp [e]
  | lss => cases hv; rw [show binOp .lss t (.int k x) (.int k y) = Op.intCmp .lss x y from by simp [binOp]]; simp only [Op.intCmp, Sem.run_pure]; rw [ltI_eq]
  | leq => cases hv; rw [show binOp .leq t (.int k x) (.int k y) = Op.intCmp .leq x y from by simp [binOp]]; simp only [Op.intCmp, Sem.run_pure]; rw [ltI_eq]; by_cases e : y < x <;> simp [e] <;> (try omega)
  | gtr => cases hv; rw [show binOp .gtr t (.int k x) (.int k y) = Op.intCmp .gtr x y from by simp [binOp]]; simp only [Op.intCmp, Sem.run_pure]; rw [ltI_eq]
  | geq => cases hv; rw [show binOp .geq t (.int k x) (.int k y) = Op.intCmp .geq x y from by simp [binOp]]; simp only [Op.intCmp, Sem.run_pure]; rw [ltI_eq]; by_cases e : x < y <;> simp [e] <;> (try omega)

theorem eqGuard_int {op : BinOp} {t : TypeId} {x y : Operand} {k k' : IntKind} {m n : Int} : (eqGuard op t x y (.int k m) (.int k' n)).run P w = .ok () w := by
  cases op <;> simp [eqGuard]
theorem eqGuard_str {op : BinOp} {t : TypeId} {x y : Operand} {a b : ByteArray} : (eqGuard op t x y (.string a) (.string b)).run P w = .ok () w := by
  cases op <;> simp [eqGuard]
theorem isC_eq {x : Operand} : isC x = true → ∃ v, x = .const v := by cases x <;> simp [isC]
theorem eqGuard_F {op : BinOp} (hop : op = .eql ∨ op = .neq) {t : TypeId} {x y : Operand} {a b a' b' : Value} (ha : VRel ρ a a') (hb : VRel ρ b b') (hg : guardF P t x y a b = true) :
    (eqGuard op t x y a' b').run P w = .ok () w := by
  unfold guardF at hg
  have key : ∀ op', (op' = .eql ∨ op' = .neq) → (eqGuard op' t x y a' b').run P w = .ok () w := by
    intro op' ho
    have h0 : eqGuard op' t x y a' b' = eqGuard .eql t x y a' b' := by rcases ho with rfl | rfl <;> rfl
    rw [h0]
    simp only [eqGuard, Bool.not_true, Bool.false_eq_true, if_false]
    split
    · cases ha; cases hb
      simp only [isNilI, andB] at hg
      split at hg
      · rename_i hx; obtain ⟨v, rfl⟩ := isC_eq hx; simp
      · obtain ⟨v, rfl⟩ := isC_eq hg; simp
    · cases ha; cases hb
      simp only [isNilI, isAggV, andB, notB_eq] at hg
      simp only [Sem.run_bind, run_program, Result.andThen_ok]
      simp at hg
      simp [hg]
    · rfl
  exact key op hop

theorem shN_eq (n : Int) (k : IntKind) : shN n k = min n.toNat k.bits := by
  unfold shN
  split
  · rename_i h1; have := Nat.le_of_ble_eq_true h1; omega
  · rename_i h1; have : ¬ n.toNat ≤ k.bits := fun h2 => by rw [Nat.ble_eq_true_of_le h2] at h1; cases h1
    omega
theorem intOpF_flat {op : BinOp} {k : IntKind} {x y : Int} {v : Value} (hv : intOpF op k x y = some v) : flat1 v = true := by
  cases op <;> simp only [intOpF] at hv <;> first
    | (cases hv; done)
    | (cases hv; rfl)
    | (split at hv <;> first | (cases hv; done) | (cases hv; rfl) | (split at hv <;> first | (cases hv; done) | (cases hv; rfl)))
theorem binOp_eql {op : BinOp} (hop : op = .eql ∨ op = .neq) {t : TypeId} {a b : Value} (h1 : ∀ k m k' n, ¬ (a = .int k m ∧ b = .int k' n)) (h2 : ∀ k m k' n, ¬ (a = .float k m ∧ b = .float k' n))
    (h3 : ∀ k m p k' n q, ¬ (a = .complex k m p ∧ b = .complex k' n q)) (h4 : ∀ c d, ¬ (a = .string c ∧ b = .string d)) :
    binOp op t a b = (do let r ← Op.equal t a b; pure (.bool (if op = .eql then r else !r))) := by
  unfold binOp
  split
  any_goals (first
    | (exact absurd ⟨rfl, rfl⟩ (h1 _ _ _ _))
    | (exact absurd ⟨rfl, rfl⟩ (h2 _ _ _ _))
    | (exact absurd ⟨rfl, rfl⟩ (h3 _ _ _ _ _ _))
    | (exact absurd ⟨rfl, rfl⟩ (h4 _ _))
    | rfl
    | (rcases hop with h | h <;> cases h; done)
    | (simp; done))
  all_goals (rcases hop with rfl | rfl <;> simp_all)

theorem eqV_float {d : Nat} {t : TypeId} {k : FloatKind} {n : Nat} {y : Value} {r : Bool} : eqV P rd d t (.float k n) y = some r → False := by
  intro h
  cases d with
  | zero => simp [eqV] at h
  | succ d =>
    unfold eqV at h
    split at h <;> first
      | (simp [eqBoolV] at h; done) | (simp [eqIntV] at h; done) | (simp [eqStrV] at h; done) | (simp [eqPtrV] at h; done) | (simp [eqSlV] at h; done) | (simp [eqMapV] at h; done) | (simp [eqFnV] at h; done) | (simp [eqIfN] at h; done) | (cases h; done)
theorem eqV_complex {d : Nat} {t : TypeId} {k : FloatKind} {n m : Nat} {y : Value} {r : Bool} : eqV P rd d t (.complex k n m) y = some r → False := by
  intro h
  cases d with
  | zero => simp [eqV] at h
  | succ d =>
    unfold eqV at h
    split at h <;> first
      | (simp [eqBoolV] at h; done) | (simp [eqIntV] at h; done) | (simp [eqStrV] at h; done) | (simp [eqPtrV] at h; done) | (simp [eqSlV] at h; done) | (simp [eqMapV] at h; done) | (simp [eqFnV] at h; done) | (simp [eqIfN] at h; done) | (cases h; done)
theorem notNum {d : Nat} {t : TypeId} {a b a' b' : Value} {r : Bool} (ha : VRel ρ a a') (hb : VRel ρ b b') (hr : eqV P rd d t a b = some r)
    (h1 : ∀ (k : IntKind) (m : Int) (k' : IntKind) (n : Int), a = Value.int k m → b = Value.int k' n → False) (h2 : ∀ (s u : ByteArray), a = Value.string s → b = Value.string u → False) :
    (∀ k m k' n, ¬ (a' = .int k m ∧ b' = .int k' n)) ∧ (∀ k m k' n, ¬ (a' = .float k m ∧ b' = .float k' n)) ∧ (∀ k m p k' n q, ¬ (a' = .complex k m p ∧ b' = .complex k' n q)) ∧ (∀ c d, ¬ (a' = .string c ∧ b' = .string d)) := by
  refine ⟨?_, ?_, ?_, ?_⟩
  · rintro k m k' n ⟨rfl, rfl⟩; cases ha; cases hb; exact h1 _ _ _ _ rfl rfl
  · rintro k m k' n ⟨rfl, rfl⟩; cases ha; exact eqV_float hr
  · rintro k m p k' n q ⟨rfl, rfl⟩; cases ha; exact eqV_complex hr
  · rintro c d ⟨rfl, rfl⟩; cases ha; cases hb; exact h2 _ _ rfl rfl
theorem binF_sound (hR : Rel P ρ h w) (hrd : ∀ a o, rd a = some o → h a = some o) {op : BinOp} {t : TypeId} {x y : Operand} {a b a' b' v : Value}
    (ha : VRel ρ a a') (hb : VRel ρ b b') (hv : binF P rd op t x y a b = some v) :
    ∃ v', ((do eqGuard op t x y a' b'; binOp op t a' b') : Sem Value).run P w = .ok v' w ∧ VRel ρ v v' := by
  unfold binF at hv
  split at hv
  · rename_i k m k' n
    rw [int_rel ha, int_rel hb]
    split at hv
    · split at hv
      · cases hv
      · rename_i hn
        cases hv
        rw [ltI_eq, decide_eq_false_iff_not] at hn
        refine ⟨_, ?_, .int _ _⟩
        simp only [Sem.run_bind, eqGuard_int, Result.andThen_ok]
        rw [show binOp .shl t (.int k m) (.int k' n) = Op.shift .shl k m k' n from by simp [binOp]]
        simp only [Op.shift, hn, if_false, Sem.run_pure, shN_eq, wrapF_eq]
        congr 3
    · split at hv
      · rename_i p hn
        cases hv
        rw [ltI_eq, decide_eq_false_iff_not] at hn
        refine ⟨_, ?_, .int _ _⟩
        simp only [Sem.run_bind, eqGuard_int, Result.andThen_ok]
        rw [show binOp .shr t (.int k (.ofNat p)) (.int k' n) = Op.shift .shr k (.ofNat p) k' n from by simp [binOp]]
        simp only [Op.shift, hn, if_false, Sem.run_pure, shN_eq]
        congr 2
        have : ((2 : Int) ^ min n.toNat k.bits) = ((2 ^ min n.toNat k.bits : Nat) : Int) := by simp
        rw [this, Int.ofNat_eq_natCast, Int.fdiv_eq_ediv_of_nonneg _ (Int.natCast_nonneg _), ← Int.natCast_ediv]
        rfl
      · cases hv
    · split at hv
      · rename_i hk
        have hk := eqK_eq.1 hk
        subst hk
        refine ⟨v, ?_, flat1_rel ρ (intOpF_flat hv)⟩
        simp only [Sem.run_bind, eqGuard_int, Result.andThen_ok]
        exact intOpF_sound hv t
      · cases hv
  · rename_i s u
    rw [string_rel ha, string_rel hb]
    simp only [Sem.run_bind, eqGuard_str, Result.andThen_ok]
    have hs : s.toList = s.data.toList := ByteArray.toList_eq s
    have hu : u.toList = u.data.toList := ByteArray.toList_eq u
    split at hv
    · split at hv
      · rename_i hle
        cases hv
        have hle : s.data.toList.length + u.data.toList.length ≤ 1000000 := Nat.le_of_ble_eq_true hle
        refine ⟨_, ?_, .string _⟩
        rw [show binOp .add t (.string s) (.string u) = Op.stringOp .add s u from by simp [binOp]]
        have h1 : s.size = s.data.toList.length := rfl
        have h2 : u.size = u.data.toList.length := rfl
        simp only [Op.stringOp, h1, h2]
        rw [if_neg (by simp only [IntKind.max, IntKind.signed, IntKind.bits, if_true]; omega)]
        simp only [Sem.run_pure]
        congr 2
      · cases hv
    · cases hv
      refine ⟨_, ?_, .bool _⟩
      rw [show binOp .eql t (.string s) (.string u) = Op.stringOp .eql s u from by simp [binOp]]
      simp only [Op.stringOp, Sem.run_pure, hs, hu, eqBytes_eq]
    · cases hv
      refine ⟨_, ?_, .bool _⟩
      rw [show binOp .neq t (.string s) (.string u) = Op.stringOp .neq s u from by simp [binOp]]
      simp only [Op.stringOp, Sem.run_pure, hs, hu, eqBytes_eq, notB_eq]
    · cases hv
      refine ⟨_, ?_, .bool _⟩
      rw [show binOp .lss t (.string s) (.string u) = Op.stringOp .lss s u from by simp [binOp]]
      simp only [Op.stringOp, Sem.run_pure, hs, hu]
    · cases hv
  · rename_i h1 h2
    split at hv
    · cases hv
    · rename_i hg
      split at hv
      · split at hv
        · rename_i r hr
          cases hv
          have := eqV_sound hR hrd 100 Op.maxDepth t a b a' b' r (by simp [Op.maxDepth]) ha hb hr
          refine ⟨.bool r, ?_, .bool _⟩
          simp only [Sem.run_bind, eqGuard_F (.inl rfl) ha hb hg, Result.andThen_ok]
          obtain ⟨n1, n2, n3, n4⟩ := notNum ha hb hr h1 h2
          rw [binOp_eql (.inl rfl) n1 n2 n3 n4]
          simp [Op.equal, this]
        · cases hv
      · split at hv
        · rename_i r hr
          cases hv
          have := eqV_sound hR hrd 100 Op.maxDepth t a b a' b' r (by simp [Op.maxDepth]) ha hb hr
          refine ⟨.bool (!r), ?_, by rw [notB_eq]; exact .bool _⟩
          simp only [Sem.run_bind, eqGuard_F (.inr rfl) ha hb hg, Result.andThen_ok]
          obtain ⟨n1, n2, n3, n4⟩ := notNum ha hb hr h1 h2
          rw [binOp_eql (.inr rfl) n1 n2 n3 n4]
          simp [Op.equal, this]
        · cases hv
      · cases hv
end
end Go.Ev
