/- A map from numbers that the kernel reads and writes in few steps. -/
import GoSem.Step
import Derived.Laws.Sem
import Derived.Laws.World
set_option linter.unusedVariables false
set_option linter.unusedSimpArgs false
namespace Go.Ev

/-- The number itself, worked out. -/
def forceN {β : Type} (n : Nat) (k : Nat → β) : β := @Nat.rec (fun _ => β) (k 0) (fun m _ => k m) (Nat.succ n)
theorem forceN_eq {β : Type} (n : Nat) (k : Nat → β) : forceN n k = k n := rfl

/-- The elder tree: for numbers that are large. -/
inductive BTri (α : Type) where
  | leaf
  | node (v : Option α) (l r : BTri α)
  deriving Inhabited

def BTri.get {α : Type} : BTri α → Nat → Option α
  | .leaf, _ => none
  | .node v l r, k =>
    match k with
    | 0 => v
    | k + 1 => match Nat.beq (Nat.mod k 2) 0 with
      | true => l.get (Nat.div k 2)
      | false => r.get (Nat.div k 2)

def BTri.setN {α : Type} (x : Option α) : Nat → BTri α → Nat → BTri α
  | 0, t, _ => t
  | n + 1, t, k =>
    match t, k with
    | .leaf, 0 => .node x .leaf .leaf
    | .leaf, k + 1 => match Nat.beq (Nat.mod k 2) 0 with
      | true => .node none (BTri.setN x n .leaf (Nat.div k 2)) .leaf
      | false => .node none .leaf (BTri.setN x n .leaf (Nat.div k 2))
    | .node _ l r, 0 => .node x l r
    | .node v l r, k + 1 => match Nat.beq (Nat.mod k 2) 0 with
      | true => .node v (BTri.setN x n l (Nat.div k 2)) r
      | false => .node v l (BTri.setN x n r (Nat.div k 2))
def BTri.map {α β : Type} (f : α → β) : BTri α → BTri β
  | .leaf => .leaf
  | .node v l r => .node (v.map f) (BTri.map f l) (BTri.map f r)

theorem BTri.get_leaf {α : Type} (k : Nat) : (BTri.leaf : BTri α).get k = none := by simp [BTri.get]
theorem BTri.get_node_zero {α : Type} (v : Option α) (l r : BTri α) : (BTri.node v l r).get 0 = v := by simp [BTri.get]
theorem BTri.get_node_succ {α : Type} (v : Option α) (l r : BTri α) (k : Nat) : (BTri.node v l r).get (k + 1) = if k % 2 = 0 then l.get (k / 2) else r.get (k / 2) := by
  simp only [BTri.get]
  by_cases h : k % 2 = 0
  · have : Nat.beq (Nat.mod k 2) 0 = true := by rw [Nat.beq_eq]; exact h
    rw [this]; simp [h]; rfl
  · have : Nat.beq (Nat.mod k 2) 0 = false := by
      rw [← Bool.not_eq_true, Nat.beq_eq]; exact h
    rw [this]; simp [h]; rfl

theorem BTri.get_setN {α : Type} (x : Option α) : ∀ (n : Nat) (t : BTri α) (k j : Nat), k < n → (BTri.setN x n t k).get j = if j = k then x else t.get j := by
  intro n
  induction n with
  | zero => intro t k j hk; omega
  | succ n ih =>
    intro t k j hk
    have hd : ∀ m, m < n + 1 → Nat.div m 2 < n + 1 := fun m h => Nat.lt_of_le_of_lt (Nat.div_le_self m 2) h
    have main : ∀ (v : Option α) (l r : BTri α) (k' : Nat), k' + 1 < n + 1 → ∀ t' : BTri α,
        (t' = match Nat.beq (Nat.mod k' 2) 0 with | true => BTri.node v (BTri.setN x n l (Nat.div k' 2)) r | false => .node v l (BTri.setN x n r (Nat.div k' 2))) →
        t'.get j = if j = k' + 1 then x else (BTri.node v l r).get j := by
      intro v l r k' hk' t' ht
      have hlt : Nat.div k' 2 < n := Nat.lt_of_le_of_lt (Nat.div_le_self k' 2) (by omega)
      have hdiv : ∀ m : Nat, Nat.div m 2 = m / 2 := fun _ => rfl
      by_cases h : k' % 2 = 0
      · have hb : Nat.beq (Nat.mod k' 2) 0 = true := by rw [Nat.beq_eq]; exact h
        rw [hb] at ht; subst ht
        cases j with
        | zero => simp [BTri.get_node_zero]
        | succ j =>
          rw [BTri.get_node_succ, BTri.get_node_succ]
          by_cases hj : j % 2 = 0
          · simp only [hj, if_true]
            rw [ih _ _ _ hlt, hdiv]
            by_cases e : j = k'
            · subst e; simp
            · have : ¬ j / 2 = k' / 2 := by omega
              simp [this, e]
          · have hne : ¬ j = k' := by intro e; apply hj; rw [e]; exact h
            simp [hj, hne]
      · have hb : Nat.beq (Nat.mod k' 2) 0 = false := by rw [← Bool.not_eq_true, Nat.beq_eq]; exact h
        rw [hb] at ht; subst ht
        cases j with
        | zero => simp [BTri.get_node_zero]
        | succ j =>
          rw [BTri.get_node_succ, BTri.get_node_succ]
          by_cases hj : j % 2 = 0
          · have hne : ¬ j = k' := by intro e; apply h; rw [← e]; exact hj
            simp [hj, hne]
          · simp only [hj, if_false]
            rw [ih _ _ _ hlt, hdiv]
            by_cases e : j = k'
            · subst e; simp
            · have : ¬ j / 2 = k' / 2 := by omega
              simp [this, e]
    cases t with
    | leaf =>
      have hleaf : ∀ m, (BTri.leaf : BTri α).get m = (BTri.node none .leaf .leaf : BTri α).get m := by
        intro m
        cases m with
        | zero => simp [BTri.get]
        | succ m => rw [BTri.get_node_succ]; simp [BTri.get_leaf]
      cases k with
      | zero =>
        simp only [BTri.setN]
        cases j with
        | zero => simp [BTri.get_node_zero]
        | succ j => rw [BTri.get_node_succ]; simp [BTri.get_leaf]
      | succ k =>
        rw [hleaf]
        exact main none .leaf .leaf k hk _ (by first | rfl | (simp only [BTri.setN]; done) | (simp only [BTri.setN]; cases Nat.beq (Nat.mod k 2) 0 <;> rfl))
    | node v l r =>
      cases k with
      | zero =>
        simp only [BTri.setN]
        cases j with
        | zero => simp [BTri.get_node_zero]
        | succ j => rw [BTri.get_node_succ, BTri.get_node_succ]; simp
      | succ k => exact main v l r k hk _ (by first | rfl | (simp only [BTri.setN]; done) | (simp only [BTri.setN]; cases Nat.beq (Nat.mod k 2) 0 <;> rfl))
theorem BTri.get_map {α β : Type} (f : α → β) (t : BTri α) : ∀ k, (t.map f).get k = (t.get k).map f := by
  induction t with
  | leaf => intro k; simp [BTri.map, BTri.get_leaf]
  | node v l r ihl ihr =>
    intro k
    simp only [BTri.map]
    cases k with
    | zero => rw [BTri.get_node_zero, BTri.get_node_zero]
    | succ k =>
      rw [BTri.get_node_succ, BTri.get_node_succ]
      split
      · exact ihl _
      · exact ihr _

/-- Eight of a kind. -/
structure T8 (α : Type) where
  a : α
  b : α
  c : α
  d : α
  e : α
  f : α
  g : α
  h : α
  deriving Inhabited
inductive Cl (α : Type) where
  | mk (f : α)
def Cl.run {α : Type} (c : Cl α) : α := match c with | .mk f => f
abbrev T3 (α : Type) := T8 (T8 (T8 α))
abbrev T8.all {α : Type} (x : α) : T8 α := ⟨x, x, x, x, x, x, x, x⟩
def T3.all {α : Type} (x : α) : T3 α := T8.all (T8.all (T8.all x))
noncomputable section
def s8 {α : Type} (d : Nat) : Cl (T8 α → α) := match d with
  | 0 => .mk (@T8.rec α (fun _ => α) fun a _ _ _ _ _ _ _ => a)
  | 1 => .mk (@T8.rec α (fun _ => α) fun _ a _ _ _ _ _ _ => a)
  | 2 => .mk (@T8.rec α (fun _ => α) fun _ _ a _ _ _ _ _ => a)
  | 3 => .mk (@T8.rec α (fun _ => α) fun _ _ _ a _ _ _ _ => a)
  | 4 => .mk (@T8.rec α (fun _ => α) fun _ _ _ _ a _ _ _ => a)
  | 5 => .mk (@T8.rec α (fun _ => α) fun _ _ _ _ _ a _ _ => a)
  | 6 => .mk (@T8.rec α (fun _ => α) fun _ _ _ _ _ _ a _ => a)
  | _ => .mk (@T8.rec α (fun _ => α) fun _ _ _ _ _ _ _ a => a)
def u8 {α X : Type} (z : α → X → α) (d : Nat) : Cl (T8 α → X → T8 α) := match d with
  | 0 => .mk (@T8.rec α (fun _ => X → T8 α) fun a b c d e f g h x => ⟨z a x, b, c, d, e, f, g, h⟩)
  | 1 => .mk (@T8.rec α (fun _ => X → T8 α) fun a b c d e f g h x => ⟨a, z b x, c, d, e, f, g, h⟩)
  | 2 => .mk (@T8.rec α (fun _ => X → T8 α) fun a b c d e f g h x => ⟨a, b, z c x, d, e, f, g, h⟩)
  | 3 => .mk (@T8.rec α (fun _ => X → T8 α) fun a b c d e f g h x => ⟨a, b, c, z d x, e, f, g, h⟩)
  | 4 => .mk (@T8.rec α (fun _ => X → T8 α) fun a b c d e f g h x => ⟨a, b, c, d, z e x, f, g, h⟩)
  | 5 => .mk (@T8.rec α (fun _ => X → T8 α) fun a b c d e f g h x => ⟨a, b, c, d, e, z f x, g, h⟩)
  | 6 => .mk (@T8.rec α (fun _ => X → T8 α) fun a b c d e f g h x => ⟨a, b, c, d, e, f, z g x, h⟩)
  | _ => .mk (@T8.rec α (fun _ => X → T8 α) fun a b c d e f g h x => ⟨a, b, c, d, e, f, g, z h x⟩)
def s3 {α : Type} (i : Nat) : Cl (T3 α → α) := forceN (Nat.div i 64) fun p => forceN (Nat.mod (Nat.div i 8) 8) fun q => forceN (Nat.mod i 8) fun r =>
  match @s8 (T8 (T8 α)) p, @s8 (T8 α) q, @s8 α r with
  | .mk f, .mk g, .mk h => .mk fun t => h (g (f t))
def u3 {α X : Type} (z : α → X → α) (i : Nat) : Cl (T3 α → X → T3 α) := forceN (Nat.div i 64) fun p => forceN (Nat.mod (Nat.div i 8) 8) fun q => forceN (Nat.mod i 8) fun r =>
  match u8 z r with
  | .mk f => match u8 f q with
    | .mk g => u8 g p
end
def T8.map {α β : Type} (z : α → β) (t : T8 α) : T8 β := ⟨z t.a, z t.b, z t.c, z t.d, z t.e, z t.f, z t.g, z t.h⟩

theorem ndiv (a b : Nat) : Nat.div a b = a / b := rfl
theorem nmod (a b : Nat) : Nat.mod a b = a % b := rfl
theorem s8_u8 {α X : Type} (z : α → X → α) (x : X) (t : T8 α) {p q : Nat} (hp : p < 8) (hq : q < 8) : (s8 q).run ((u8 z p).run t x) = if q = p then z ((s8 q).run t) x else (s8 q).run t := by
  obtain ⟨a, b, c, d, e, f, g, h⟩ := t
  match p, hp with
  | 0, _ => match q, hq with | 0, _ | 1, _ | 2, _ | 3, _ | 4, _ | 5, _ | 6, _ | 7, _ => rfl
  | 1, _ => match q, hq with | 0, _ | 1, _ | 2, _ | 3, _ | 4, _ | 5, _ | 6, _ | 7, _ => rfl
  | 2, _ => match q, hq with | 0, _ | 1, _ | 2, _ | 3, _ | 4, _ | 5, _ | 6, _ | 7, _ => rfl
  | 3, _ => match q, hq with | 0, _ | 1, _ | 2, _ | 3, _ | 4, _ | 5, _ | 6, _ | 7, _ => rfl
  | 4, _ => match q, hq with | 0, _ | 1, _ | 2, _ | 3, _ | 4, _ | 5, _ | 6, _ | 7, _ => rfl
  | 5, _ => match q, hq with | 0, _ | 1, _ | 2, _ | 3, _ | 4, _ | 5, _ | 6, _ | 7, _ => rfl
  | 6, _ => match q, hq with | 0, _ | 1, _ | 2, _ | 3, _ | 4, _ | 5, _ | 6, _ | 7, _ => rfl
  | 7, _ => match q, hq with | 0, _ | 1, _ | 2, _ | 3, _ | 4, _ | 5, _ | 6, _ | 7, _ => rfl
theorem s8_map {α β : Type} (z : α → β) (t : T8 α) {q : Nat} (hq : q < 8) : (s8 q).run (t.map z) = z ((s8 q).run t) := by
  obtain ⟨a, b, c, d, e, f, g, h⟩ := t
  match q, hq with | 0, _ | 1, _ | 2, _ | 3, _ | 4, _ | 5, _ | 6, _ | 7, _ => rfl
theorem s8_all {α : Type} (x : α) {q : Nat} (hq : q < 8) : (s8 q).run (T8.all x) = x := by
  match q, hq with | 0, _ | 1, _ | 2, _ | 3, _ | 4, _ | 5, _ | 6, _ | 7, _ => rfl
theorem s3_run {α : Type} (i : Nat) (t : T3 α) : (s3 i).run t = (s8 (i % 8)).run ((s8 (i / 8 % 8)).run ((s8 (i / 64)).run t)) := by
  unfold s3
  simp only [forceN_eq]
  simp only [ndiv, nmod]
  generalize @s8 (T8 (T8 α)) (i / 64) = x; generalize @s8 (T8 α) (i / 8 % 8) = y; generalize @s8 α (i % 8) = z
  cases x; cases y; cases z; rfl
theorem u3_run {α X : Type} (z : α → X → α) (i : Nat) : u3 z i = u8 (u8 (u8 z (i % 8)).run (i / 8 % 8)).run (i / 64) := by
  unfold u3
  simp only [forceN_eq, ndiv, nmod]
  cases u8 z (i % 8) with
  | mk f =>
    simp only [Cl.run]
theorem s3_u3 {α X : Type} (z : α → X → α) (x : X) (t : T3 α) {i j : Nat} (hi : i < 512) (hj : j < 512) : (s3 j).run ((u3 z i).run t x) = if j = i then z ((s3 j).run t) x else (s3 j).run t := by
  rw [s3_run, u3_run, s3_run, s8_u8 _ _ _ (by omega) (by omega)]
  by_cases h1 : j / 64 = i / 64
  · rw [if_pos h1, s8_u8 _ _ _ (by omega) (by omega)]
    by_cases h2 : j / 8 % 8 = i / 8 % 8
    · rw [if_pos h2, s8_u8 _ _ _ (by omega) (by omega)]
      by_cases h3 : j % 8 = i % 8
      · rw [if_pos h3, if_pos (by omega)]
      · rw [if_neg h3, if_neg (by omega)]
    · rw [if_neg h2, if_neg (by omega)]
  · rw [if_neg h1, if_neg (by omega)]
def T3.map {α β : Type} (z : α → β) (t : T3 α) : T3 β := T8.map (T8.map (T8.map z)) t
theorem s3_map {α β : Type} (z : α → β) (t : T3 α) {i : Nat} (hi : i < 512) : (s3 i).run (T3.map z t) = z ((s3 i).run t) := by
  rw [s3_run, s3_run]; unfold T3.map
  rw [s8_map _ _ (by omega), s8_map _ _ (by omega), s8_map _ _ (by omega)]
theorem s3_all {α : Type} (x : α) {i : Nat} (hi : i < 512) : (s3 i).run (T3.all x) = x := by
  rw [s3_run]; unfold T3.all
  rw [s8_all _ (by omega), s8_all _ (by omega), s8_all _ (by omega)]

/-- A map from numbers. -/
structure Tri (α : Type) where
  z : T8 (Option α)
  m : T3 (Option α)
  b : T3 (T3 (Option α))
  r : BTri α
  deriving Inhabited
def Tri.leaf {α : Type} : Tri α := ⟨T8.all none, T3.all none, T3.all (T3.all none), .leaf⟩
noncomputable section
/-- How a number is looked up. -/
def acc {α : Type} (i : Nat) : Cl (Tri α → Option α) :=
  match Nat.ble (Nat.succ i) 8 with
  | true => match @s8 (Option α) i with | .mk f => .mk (@Tri.rec α (fun _ => Option α) fun z _ _ _ => f z)
  | false => match Nat.ble (Nat.succ i) 512 with
    | true => match @s3 (Option α) i with | .mk f => .mk (@Tri.rec α (fun _ => Option α) fun _ m _ _ => f m)
    | false => match Nat.ble (Nat.succ i) 262144 with
      | true => forceN (Nat.div i 512) fun p => forceN (Nat.mod i 512) fun q => match @s3 (T3 (Option α)) p, @s3 (Option α) q with
        | .mk f, .mk g => .mk (@Tri.rec α (fun _ => Option α) fun _ _ b _ => g (f b))
      | false => .mk fun t => t.r.get i
/-- The new one for the old one. -/
def newX {α : Type} (_ : α) (x : α) : α := x
/-- How it is set. -/
def upd {α : Type} (i : Nat) : Cl (Tri α → Option α → Tri α) :=
  match Nat.ble (Nat.succ i) 8 with
  | true => match @u8 (Option α) (Option α) newX i with | .mk f => .mk (@Tri.rec α (fun _ => Option α → Tri α) fun z m b r x => ⟨f z x, m, b, r⟩)
  | false => match Nat.ble (Nat.succ i) 512 with
    | true => match @u3 (Option α) (Option α) newX i with | .mk f => .mk (@Tri.rec α (fun _ => Option α → Tri α) fun z m b r x => ⟨z, f m x, b, r⟩)
    | false => match Nat.ble (Nat.succ i) 262144 with
      | true => forceN (Nat.div i 512) fun p => forceN (Nat.mod i 512) fun q => match @u3 (Option α) (Option α) newX q with
        | .mk g => match @u3 (T3 (Option α)) (Option α) g p with
          | .mk f => .mk (@Tri.rec α (fun _ => Option α → Tri α) fun z m b r x => ⟨z, m, f b x, r⟩)
      | false => .mk fun t x => { t with r := BTri.setN x (Nat.add i 1) t.r i }
def Tri.get {α : Type} (t : Tri α) (i : Nat) : Option α := forceN i fun i => @Cl.rec (Tri α → Option α) (fun _ => Option α) (fun f => f t) (acc i)
def Tri.put {α : Type} (t : Tri α) (i : Nat) (x : Option α) : Tri α := forceN i fun i => @Cl.rec (Tri α → Option α → Tri α) (fun _ => Tri α) (fun f => f t x) (upd i)
end
noncomputable def Tri.set {α : Type} (t : Tri α) (k : Nat) (x : α) : Tri α := t.put k (some x)
noncomputable def Tri.del {α : Type} (t : Tri α) (k : Nat) : Tri α := t.put k none

theorem Cl.rec_run {α β : Type} (c : Cl (α → β)) (t : α) : @Cl.rec (α → β) (fun _ => β) (fun f => f t) c = c.run t := by cases c; rfl
theorem Tri.get_run {α : Type} (t : Tri α) (i : Nat) : t.get i = (acc i).run t := by
  unfold Tri.get; rw [forceN_eq]; cases @acc α i; rfl
theorem Tri.put_run {α : Type} (t : Tri α) (i : Nat) (x : Option α) : t.put i x = (upd i).run t x := by
  unfold Tri.put; rw [forceN_eq]; cases @upd α i; rfl
theorem ble_t {a b : Nat} (h : a < b) : Nat.ble (Nat.succ a) b = true := Nat.ble_eq_true_of_le h
theorem ble_f {a b : Nat} (h : ¬ a < b) : Nat.ble (Nat.succ a) b = false := by
  rw [← Bool.not_eq_true]; intro e; exact h (Nat.le_of_ble_eq_true e)
theorem Tri.get_z {α : Type} (t : Tri α) {i : Nat} (h : i < 8) : t.get i = (s8 i).run t.z := by
  rw [Tri.get_run]; unfold acc; rw [ble_t h]; cases t
  simp only
  generalize @s8 (Option α) i = x; cases x; rfl
theorem Tri.get_m {α : Type} (t : Tri α) {i : Nat} (h0 : ¬ i < 8) (h : i < 512) : t.get i = (s3 i).run t.m := by
  rw [Tri.get_run]; unfold acc; rw [ble_f h0, ble_t h]; cases t
  simp only
  generalize @s3 (Option α) i = x; cases x; rfl
theorem Tri.get_b {α : Type} (t : Tri α) {i : Nat} (h0 : ¬ i < 512) (h : i < 262144) : t.get i = (s3 (i % 512)).run ((s3 (i / 512)).run t.b) := by
  rw [Tri.get_run]; unfold acc; rw [ble_f (by omega : ¬ i < 8), ble_f h0, ble_t h]; cases t
  simp only [forceN_eq, ndiv, nmod]
  generalize @s3 (T3 (Option α)) (i / 512) = x; generalize @s3 (Option α) (i % 512) = y; cases x; cases y; rfl
theorem Tri.get_r {α : Type} (t : Tri α) {i : Nat} (h : ¬ i < 262144) : t.get i = t.r.get i := by
  rw [Tri.get_run]; unfold acc; rw [ble_f (by omega : ¬ i < 8), ble_f (by omega : ¬ i < 512), ble_f h]; rfl
theorem Tri.put_z {α : Type} (t : Tri α) (x : Option α) {i : Nat} (h : i < 8) : t.put i x = { t with z := (u8 newX i).run t.z x } := by
  rw [Tri.put_run]; unfold upd; rw [ble_t h]; cases t
  simp only
  generalize @u8 (Option α) (Option α) newX i = y; cases y; rfl
theorem Tri.put_m {α : Type} (t : Tri α) (x : Option α) {i : Nat} (h0 : ¬ i < 8) (h : i < 512) : t.put i x = { t with m := (u3 newX i).run t.m x } := by
  rw [Tri.put_run]; unfold upd; rw [ble_f h0, ble_t h]; cases t
  simp only
  generalize @u3 (Option α) (Option α) newX i = y; cases y; rfl
theorem Tri.put_b {α : Type} (t : Tri α) (x : Option α) {i : Nat} (h0 : ¬ i < 512) (h : i < 262144) : t.put i x = { t with b := (u3 (u3 newX (i % 512)).run (i / 512)).run t.b x } := by
  rw [Tri.put_run]; unfold upd; rw [ble_f (by omega : ¬ i < 8), ble_f h0, ble_t h]; cases t
  simp only [forceN_eq, ndiv, nmod]
  generalize @u3 (Option α) (Option α) newX (i % 512) = y; cases y with
  | mk g => simp only [Cl.run]
theorem Tri.put_r {α : Type} (t : Tri α) (x : Option α) {i : Nat} (h : ¬ i < 262144) : t.put i x = { t with r := BTri.setN x (i + 1) t.r i } := by
  rw [Tri.put_run]; unfold upd; rw [ble_f (by omega : ¬ i < 8), ble_f (by omega : ¬ i < 512), ble_f h]; rfl
theorem Tri.get_put {α : Type} (t : Tri α) (k : Nat) (x : Option α) (j : Nat) : (t.put k x).get j = if j = k then x else t.get j := by
  by_cases a : k < 8
  · rw [Tri.put_z _ _ a]
    by_cases b : j < 8
    · rw [Tri.get_z _ b, Tri.get_z _ b]; exact s8_u8 newX x _ a b
    · rw [if_neg (by omega)]
      by_cases c : j < 512
      · rw [Tri.get_m _ b c, Tri.get_m _ b c]
      · by_cases d : j < 262144
        · rw [Tri.get_b _ c d, Tri.get_b _ c d]
        · rw [Tri.get_r _ d, Tri.get_r _ d]
  · by_cases a2 : k < 512
    · rw [Tri.put_m _ _ a a2]
      by_cases b : j < 8
      · rw [if_neg (by omega), Tri.get_z _ b, Tri.get_z _ b]
      · by_cases c : j < 512
        · rw [Tri.get_m _ b c, Tri.get_m _ b c]; exact s3_u3 newX x _ a2 c
        · rw [if_neg (by omega)]
          by_cases d : j < 262144
          · rw [Tri.get_b _ c d, Tri.get_b _ c d]
          · rw [Tri.get_r _ d, Tri.get_r _ d]
    · by_cases a3 : k < 262144
      · rw [Tri.put_b _ _ a2 a3]
        by_cases b : j < 8
        · rw [if_neg (by omega), Tri.get_z _ b, Tri.get_z _ b]
        · by_cases c : j < 512
          · rw [if_neg (by omega), Tri.get_m _ b c, Tri.get_m _ b c]
          · by_cases d : j < 262144
            · rw [Tri.get_b _ c d, Tri.get_b _ c d]
              show (s3 (j % 512)).run ((s3 (j / 512)).run ((u3 _ (k / 512)).run t.b x)) = _
              rw [s3_u3 _ _ _ (by omega) (by omega)]
              by_cases e : j / 512 = k / 512
              · rw [if_pos e, s3_u3 _ _ _ (by omega) (by omega)]
                by_cases e2 : j % 512 = k % 512
                · rw [if_pos e2, if_pos (by omega)]; rfl
                · rw [if_neg e2, if_neg (by omega)]
              · rw [if_neg e, if_neg (by omega)]
            · rw [if_neg (by omega), Tri.get_r _ d, Tri.get_r _ d]
      · rw [Tri.put_r _ _ a3]
        by_cases d : j < 262144
        · rw [if_neg (by omega)]
          by_cases b : j < 8
          · rw [Tri.get_z _ b, Tri.get_z _ b]
          · by_cases c : j < 512
            · rw [Tri.get_m _ b c, Tri.get_m _ b c]
            · rw [Tri.get_b _ c d, Tri.get_b _ c d]
        · rw [Tri.get_r _ d, Tri.get_r _ d]
          exact BTri.get_setN x _ _ _ _ (Nat.lt_succ_self k)
theorem Tri.get_set {α : Type} (t : Tri α) (k : Nat) (x : α) (j : Nat) : (t.set k x).get j = if j = k then some x else t.get j := Tri.get_put t k _ j
theorem Tri.get_del {α : Type} (t : Tri α) (k : Nat) (j : Nat) : (t.del k).get j = if j = k then none else t.get j := Tri.get_put t k _ j
theorem Tri.get_leaf {α : Type} (k : Nat) : (Tri.leaf : Tri α).get k = none := by
  by_cases a : k < 8
  · rw [Tri.get_z _ a]; exact s8_all _ a
  · by_cases b : k < 512
    · rw [Tri.get_m _ a b]; exact s3_all _ b
    · by_cases c : k < 262144
      · rw [Tri.get_b _ b c]
        show (s3 (k % 512)).run ((s3 (k / 512)).run (T3.all (T3.all none))) = none
        rw [s3_all _ (by omega), s3_all _ (by omega)]
      · rw [Tri.get_r _ c]; exact BTri.get_leaf k
def Tri.map {α β : Type} (f : α → β) (t : Tri α) : Tri β := ⟨T8.map (Option.map f) t.z, T3.map (Option.map f) t.m, T3.map (T3.map (Option.map f)) t.b, t.r.map f⟩
theorem Tri.get_map {α β : Type} (f : α → β) (t : Tri α) (k : Nat) : (t.map f).get k = (t.get k).map f := by
  by_cases a : k < 8
  · rw [Tri.get_z _ a, Tri.get_z _ a]; exact s8_map _ _ a
  · by_cases b : k < 512
    · rw [Tri.get_m _ a b, Tri.get_m _ a b]; exact s3_map _ _ b
    · by_cases c : k < 262144
      · rw [Tri.get_b _ b c, Tri.get_b _ b c]
        show (s3 (k % 512)).run ((s3 (k / 512)).run (T3.map (T3.map (Option.map f)) t.b)) = _
        rw [s3_map _ _ (by omega), s3_map _ _ (by omega)]
      · rw [Tri.get_r _ c, Tri.get_r _ c]; exact BTri.get_map f _ k
end Go.Ev

/- The definitions of an evaluator of the program's functions over names in place of addresses. -/
namespace Go.Ev

noncomputable section
/-- What stands at a name. -/
inductive AObj where
  | row (cells : Tri Value) (size : Nat) (elem : TypeId) (opn fz : Bool)
  | map (es : List MapEntry) (clock : Nat)
  | iter (s : ByteArray) (pos : Nat)
  | dfd (some : Bool)
  | loop (st : LoopState) (pending : Option Code) (t : Tri Value) (nt : Nat) (params : List Tmp) (assign body : Code) (defers : Nat)
  deriving Inhabited

structure St where
  h : Tri (Nat × AObj)
  n : Nat
  deriving Inhabited

def OPEN : Nat := 18446744073709551616

inductive Ex where
  | normal
  | exit (id : Nat)
  | goto (l : Nat)
  | ret
  | panic (v : Value)
  deriving Inhabited

inductive En where
  | ret (v : Value)
  | panic (v : Value)
  deriving Inhabited

structure Out where
  e : Ex
  t : Tri Value
  d : List Deferred
  s : St
  deriving Inhabited

structure COut where
  e : En
  s : St
  deriving Inhabited

/-- What is called: a function, or a round of a loop over a function. -/
inductive Tgt where
  | fn (f : FuncId)
  | round (l : Nat)

/- ---- numbers ---- -/
def ltI : Int → Int → Bool
  | .ofNat a, .ofNat b => Nat.ble (Nat.succ a) b
  | .negSucc _, .ofNat _ => true
  | .ofNat _, .negSucc _ => false
  | .negSucc a, .negSucc b => Nat.ble (Nat.succ b) a
def eqI : Int → Int → Bool
  | .ofNat a, .ofNat b => Nat.beq a b
  | .negSucc _, .ofNat _ => false
  | .ofNat _, .negSucc _ => false
  | .negSucc a, .negSucc b => Nat.beq b a
/-- Half of a kind's numbers, by hand. -/
def capN : IntKind → Nat
  | .i8 => 128 | .i16 => 32768 | .i32 => 2147483648 | .i64 => 9223372036854775808
  | .u8 => 256 | .u16 => 65536 | .u32 => 4294967296 | .u64 => 18446744073709551616
def wrapF (k : IntKind) : Int → Int
  | .ofNat a => match Nat.ble (Nat.succ a) (capN k) with
    | true => .ofNat a
    | false => k.wrap (.ofNat a)
  | .negSucc a => match k.signed, Nat.ble (Nat.succ a) (capN k) with
    | true, true => .negSucc a
    | _, _ => k.wrap (.negSucc a)

def maxI (a b : Int) : Int := match ltI a b with | true => b | false => a
def minI (a b : Int) : Int := match ltI b a with | true => b | false => a
def eqBytes : List UInt8 → List UInt8 → Bool
  | [], [] => true
  | a :: x, b :: y => match Nat.beq a.toNat b.toNat with
    | true => eqBytes x y
    | false => false
  | _, _ => false
def nth {α : Type} : List α → Nat → Option α
  | [], _ => none
  | a :: _, 0 => some a
  | _ :: l, n + 1 => nth l n

def eqK (a b : IntKind) : Bool := Nat.beq a.ctorIdx b.ctorIdx

def noneB {α : Type} : Option α → Bool
  | none => true
  | some _ => false
def zeroB : Nat → Bool
  | 0 => true
  | _ + 1 => false
def andB : Bool → Bool → Bool
  | true, b => b
  | false, _ => false
def nilB {α : Type} : List α → Bool
  | [] => true
  | _ :: _ => false
/-- The value is one of no parts, without an address. -/
def flat1 : Value → Bool
  | .bool _ => true
  | .int _ _ => true
  | .float _ _ => true
  | .complex _ _ _ => true
  | .string _ => true
  | .pointer a => noneB a
  | .slice a l c => andB (noneB a) (andB (zeroB l) (zeroB c))
  | .map r => noneB r
  | .chan _ => false
  | .func _ _ _ => false
  | .nilFunc => true
  | .iface _ _ => false
  | .nilIface => true
  | .agg _ => false
  | .tuple _ => false
def flatL : List Value → Bool
  | [] => true
  | v :: l => andB (flat1 v) (flatL l)
def isFn : Fn → Bool
  | .func _ => true
  | _ => false
/-- The value holds no address. -/
def flat : Value → Bool
  | .agg cs => flatL cs.toList
  | .tuple cs => flatL cs.toList
  | .func f a b => andB (isFn f) (andB (nilB a.toList) (nilB b.toList))
  | v => flat1 v

/- ---- operands ---- -/
def opv (P : Program) (t : Tri Value) : Operand → Option Value
  | .tmp i => match t.get i with | some v => some v | none => some undef
  | .const v => match flat v with | true => some v | false => none
  | .global g => match Nat.ble (Nat.succ g) P.globals.size with | true => some (.pointer (some ⟨g, 0, none⟩)) | false => none
  | .func f => some (.func (.func f) #[] #[])

def opvs (ev : Operand → Option Value) : List Operand → Option (List Value)
  | [] => some []
  | x :: l => match ev x with
    | none => none
    | some v => match opvs ev l with
      | none => none
      | some vs => some (v :: vs)

/- ---- rows ---- -/
def fillT : List Value → Nat → Tri Value → Tri Value
  | [], _, t => t
  | v :: l, i, t => fillT l (Nat.add i 1) (t.set i v)
def hdO {α : Type} (l : List α) : Option α := @List.rec α (fun _ => Option α) none (fun a _ _ => some a) l
def tlL {α : Type} (l : List α) : List α := @List.rec α (fun _ => List α) [] (fun _ l _ => l) l
/-- A row; what is behind its eighth cell is worked out when it is asked for. -/
def rowOf (vs : List Value) : Tri Value :=
  let a := tlL vs
  let b := tlL a
  let c := tlL b
  let d := tlL c
  let e := tlL d
  let f := tlL e
  let g := tlL f
  let F := fillT (tlL g) 8 .leaf
  ⟨⟨hdO vs, hdO a, hdO b, hdO c, hdO d, hdO e, hdO f, hdO g⟩, F.m, F.b, F.r⟩
def cellsFrom (t : Tri Value) : Nat → Nat → Option (List Value)
  | 0, _ => some []
  | n + 1, i => match t.get i with
    | none => none
    | some v => match cellsFrom t n (Nat.add i 1) with
      | none => none
      | some l => some (v :: l)
def takeL {α : Type} : Nat → List α → Option (List α)
  | 0, _ => some []
  | _ + 1, [] => none
  | n + 1, a :: l => match takeL n l with | none => none | some r => some (a :: r)
def dropL {α : Type} : Nat → List α → Option (List α)
  | 0, l => some l
  | _ + 1, [] => none
  | n + 1, _ :: l => dropL n l
/-- l with xs laid over it from i on. -/
def overL {α : Type} : Nat → List α → List α → Option (List α)
  | _, [], l => some l
  | 0, x :: xs, _ :: l => match overL 0 xs l with | none => none | some r => some (x :: r)
  | n + 1, xs, a :: l => match overL n xs l with | none => none | some r => some (a :: r)
  | _, _ :: _, [] => none
def repL {α : Type} : Nat → List α → List α
  | 0, _ => []
  | n + 1, l => l ++ repL n l

/- ---- types ---- -/
inductive TK where
  | one | many (n : Nat)
def tk (P : Program) (t : TypeId) : Option TK :=
  match P.underlying t with
  | some (.struct _) | some (.array _ _) => match P.info? t with | some i => some (.many i.size) | none => none
  | some _ => some .one
  | none => none
def sizeT (P : Program) (t : TypeId) : Option Nat := match P.info? t with | some i => some i.size | none => none
def zeroT (P : Program) (t : TypeId) : Option Value := match P.info? t with
  | some i => match i.zero with
    | some v => match flat v with | true => some v | false => none
    | none => none
  | none => none
def cellsV : Value → List Value
  | .agg cs => cs.toList
  | v => [v]

/- ---- operations that turn nothing ---- -/
inductive NewV where
  | ptr
  | slice (len cap : Nat)
  | map
  deriving Inhabited
def NewV.at (a : Nat) : NewV → Value
  | .ptr => .pointer (some ⟨a, 0, none⟩)
  | .slice l c => .slice (some ⟨a, 0, none⟩) l c
  | .map => .map (some a)
inductive PO where
  | val (v : Value)
  | new (o : AObj) (v : NewV)
  deriving Inhabited

abbrev Rd := Nat → Option AObj

def loadA (rd : Rd) (a : Addr) (k : TK) : Option Value :=
  match rd a.block with
  | some (.row cs n _ _ _) => match a.spot with
    | some _ => none
    | none => match k with
      | .one => match Nat.ble (Nat.succ a.off) n with | true => cs.get a.off | false => none
      | .many m => match Nat.ble (Nat.add a.off m) n with
        | true => match cellsFrom cs m a.off with
          | some l => some (.agg ⟨l⟩)
          | none => none
        | false => none
  | _ => none

def addN (a : Addr) (n : Nat) : Addr := ⟨a.block, Nat.add a.off n, none⟩

def intOpF (op : BinOp) (k : IntKind) (x y : Int) : Option Value :=
  match op with
  | .add => some (.int k (wrapF k (Int.add x y)))
  | .sub => some (.int k (wrapF k (Int.sub x y)))
  | .mul => some (.int k (wrapF k (Int.mul x y)))
  | .quo => match eqI y 0 with | true => none | false => some (.int k (wrapF k (Int.tdiv x y)))
  | .rem => match eqI y 0 with | true => none | false => some (.int k (Int.tmod x y))
  | .and => match x, y with
    | .ofNat a, .ofNat b => match Nat.ble (Nat.succ a) (capN k), Nat.ble (Nat.succ b) (capN k) with
      | true, true => some (.int k (.ofNat (Nat.land a b)))
      | _, _ => none
    | _, _ => none
  | .or => match x, y with
    | .ofNat a, .ofNat b => match Nat.ble (Nat.succ a) (capN k), Nat.ble (Nat.succ b) (capN k) with
      | true, true => some (.int k (.ofNat (Nat.lor a b)))
      | _, _ => none
    | _, _ => none
  | .xor => match x, y with
    | .ofNat a, .ofNat b => match Nat.ble (Nat.succ a) (capN k), Nat.ble (Nat.succ b) (capN k) with
      | true, true => some (.int k (.ofNat (Nat.xor a b)))
      | _, _ => none
    | _, _ => none
  | .eql => some (.bool (eqI x y))
  | .neq => some (.bool (match eqI x y with | true => false | false => true))
  | .lss => some (.bool (ltI x y))
  | .gtr => some (.bool (ltI y x))
  | .leq => some (.bool (match ltI y x with | true => false | false => true))
  | .geq => some (.bool (match ltI x y with | true => false | false => true))
  | _ => none

def notB : Bool → Bool
  | true => false
  | false => true

def eqBoolV : Value → Value → Option Bool
  | .bool a, .bool b => some (match a with | true => b | false => notB b)
  | _, _ => none
def eqIntV : Value → Value → Option Bool
  | .int k a, .int k' b => match eqK k k' with | true => some (eqI a b) | false => none
  | _, _ => none
def eqStrV : Value → Value → Option Bool
  | .string a, .string b => some (eqBytes a.data.toList b.data.toList)
  | _, _ => none
def eqSlV : Value → Value → Option Bool
  | .slice none _ _, .slice b _ _ => some (noneB b)
  | .slice (some _) _ _, .slice none _ _ => some false
  | _, _ => none
def eqMapV : Value → Value → Option Bool
  | .map none, .map b => some (noneB b)
  | .map (some _), .map none => some false
  | _, _ => none
def eqFnV : Value → Value → Option Bool
  | .nilFunc, .nilFunc => some true
  | .nilFunc, .func _ _ _ => some false
  | .func _ _ _, .nilFunc => some false
  | _, _ => none
def eqAddrs (rd : Rd) (a b : Addr) : Option Bool :=
  match Nat.beq a.block b.block with
  | true => match rd a.block with
    | some _ => some (Nat.beq a.off b.off)
    | none => none
  | false => match rd a.block, rd b.block with
    | some (.row _ _ _ _ false), some (.row _ _ _ _ false) => some false
    | _, _ => none
def eqPtrV (P : Program) (rd : Rd) (e : TypeId) : Value → Value → Option Bool
  | .pointer none, .pointer b => some (noneB b)
  | .pointer (some _), .pointer none => some false
  | .pointer (some a), .pointer (some b) => match sizeT P e with
    | some (_ + 1) => eqAddrs rd a b
    | _ => none
  | _, _ => none
def eqIfN : Value → Value → Option Bool
  | .nilIface, .nilIface => some true
  | .nilIface, .iface _ _ => some false
  | .iface _ _, .nilIface => some false
  | _, _ => none
def partV (P : Program) (t : TypeId) (cs : List Value) (off : Nat) : Option Value :=
  match tk P t with
  | some .one => nth cs off
  | some (.many n) => match dropL off cs with
    | some l => match takeL n l with | some r => some (.agg ⟨r⟩) | none => none
    | none => none
  | none => none
/-- Field by field. -/
def eqFs (P : Program) (eq : TypeId → Value → Value → Option Bool) : List Field → List Value → List Value → Option Bool
  | [], _, _ => some true
  | f :: fs, xs, ys => match decide (f.name = "_") with
    | true => eqFs P eq fs xs ys
    | false => match partV P f.type xs f.offset, partV P f.type ys f.offset with
      | some x, some y => match eq f.type x y with
        | some true => eqFs P eq fs xs ys
        | some false => some false
        | none => none
      | _, _ => none
def eqV (P : Program) (rd : Rd) : Nat → TypeId → Value → Value → Option Bool
  | 0, _, _, _ => none
  | d + 1, t, x, y =>
    match P.underlying t with
    | some .bool => eqBoolV x y
    | some (.int _) => eqIntV x y
    | some .string => eqStrV x y
    | some (.pointer e) => eqPtrV P rd e x y
    | some (.slice _) => eqSlV x y
    | some (.map _ _) => eqMapV x y
    | some (.func _ _ _) => eqFnV x y
    | some (.interface _) => match x, y with
      | .iface tx vx, .iface ty vy => match Nat.beq tx ty with
        | false => some false
        | true => match P.info? tx with
          | some i => match i.comparable with
            | true => eqV P rd d tx vx vy
            | false => none
          | none => none
      | x, y => eqIfN x y
    | some (.struct fs) => match x, y with
      | .agg xs, .agg ys => match P.stoodInHeld t with
        | true => none
        | false => eqFs P (eqV P rd d) fs.toList xs.toList ys.toList
      | _, _ => none
    | _ => none

def isC : Operand → Bool
  | .const _ => true
  | _ => false

def isNilI : Value → Bool
  | .nilIface => true
  | _ => false
def isAggV : Value → Bool
  | .agg _ => true
  | _ => false
/-- What the model asks of two values ahead of a comparison. -/
def guardF (P : Program) (t : TypeId) (x y : Operand) (a b : Value) : Bool :=
  match andB (isNilI a) (isNilI b), andB (isAggV a) (isAggV b) with
  | true, _ => (match isC x with | true => true | false => isC y)
  | false, true => notB (P.eqGuardType P.depth t)
  | false, false => true
def shN (n : Int) (k : IntKind) : Nat := match Nat.ble n.toNat k.bits with | true => n.toNat | false => k.bits
def binF (P : Program) (rd : Rd) (op : BinOp) (t : TypeId) (x y : Operand) (a b : Value) : Option Value :=
  match a, b with
  | .int k m, .int k' n =>
    match op with
    | .shl => match ltI n 0 with
      | true => none
      | false => some (.int k (wrapF k (Int.mul m (.ofNat (Nat.pow 2 (shN n k))))))
    | .shr => match ltI n 0, m with
      | false, .ofNat p => some (.int k (.ofNat (Nat.div p (Nat.pow 2 (shN n k)))))
      | _, _ => none
    | _ => match eqK k k' with | true => intOpF op k m n | false => none
  | .string s, .string u =>
    match op with
    | .add => match Nat.ble (Nat.add (List.length s.data.toList) (List.length u.data.toList)) 1000000 with
      | true => some (.string ⟨⟨s.data.toList ++ u.data.toList⟩⟩)
      | false => none
    | .eql => some (.bool (eqBytes s.data.toList u.data.toList))
    | .neq => some (.bool (notB (eqBytes s.data.toList u.data.toList)))
    | .lss => some (.bool (Op.bytesLess s.data.toList u.data.toList))
    | _ => none
  | a, b => match guardF P t x y a b with
    | false => none
    | true => match op with
      | .eql => match eqV P rd 100 t a b with | some r => some (.bool r) | none => none
      | .neq => match eqV P rd 100 t a b with | some r => some (.bool (notB r)) | none => none
      | _ => none

/-- Two keys of a map. -/
def sameK : Value → Value → Option Bool
  | .int k a, .int k' b => match eqK k k' with | true => some (eqI a b) | false => none
  | .string a, .string b => some (eqBytes a.data.toList b.data.toList)
  | .bool a, .bool b => some (match a with | true => b | false => notB b)
  | _, _ => none
def findK (k : Value) : List MapEntry → Nat → Option (Option (Nat × Value))
  | [], _ => some none
  | e :: es, i => match sameK k e.key with
    | some true => some (some (i, e.val))
    | some false => findK k es (Nat.add i 1)
    | none => none
def keyOk (P : Program) (t : TypeId) : Value → Bool
  | .int _ _ => match P.underlying t with | some (.int _) => true | _ => false
  | .string _ => match P.underlying t with | some .string => true | _ => false
  | .bool _ => match P.underlying t with | some .bool => true | _ => false
  | _ => false
def mapT (P : Program) (t : TypeId) : Option (TypeId × TypeId) := match P.underlying t with
  | some (.map k e) => some (k, e)
  | _ => none

def boundF (v : Option Value) (d : Nat) (top : Nat) : Option Nat := match v with
  | none => some d
  | some (.int _ (.ofNat n)) => match Nat.ble n top with | true => some n | false => none
  | _ => none

/-- An optional operand. -/
def opvO (ev : Operand → Option Value) : Option Operand → Option (Option Value)
  | none => some none
  | some x => match ev x with | some v => some (some v) | none => none

def partsF (ev : Operand → Option Value) (place : Nat → Option (Nat × Nat)) : List (Nat × Operand) → List Value → Option (List Value)
  | [], l => some l
  | (i, x) :: r, l => match ev x, place i with
    | some v, some (off, size + 1) => match Nat.beq (List.length (cellsV v)) (size + 1) with
      | true => match overL off (cellsV v) l with
        | some l' => partsF ev place r l'
        | none => none
      | false => none
    | _, _ => none

/-- An element's size and zero cells. -/
def elemZ (P : Program) (e : TypeId) : Option (Nat × List Value) := match sizeT P e, zeroT P e with
  | some (sz + 1), some z => match Nat.beq (List.length (cellsV z)) (sz + 1) with
    | true => some (sz + 1, cellsV z)
    | false => none
  | _, _ => none
/-- Where a field lies. -/
def placeF (P : Program) (fs : List Field) (i : Nat) : Option (Nat × Nat) := match nth fs i with
  | some f => (match sizeT P f.type with | some n => some (f.offset, n) | none => none)
  | none => none
def sizesOk (P : Program) : List Field → Bool
  | [] => true
  | f :: l => match sizeT P f.type with
    | some _ => sizesOk P l
    | none => false
def bytesOf : List Value → Option (List UInt8)
  | [] => some []
  | .int .u8 (.ofNat n) :: l => match bytesOf l with | some r => some (UInt8.ofNat n :: r) | none => none
  | _ => none

/-- A slice with a capacity that is known. -/
def sliceTo (a : Addr) (sz l h m : Nat) : Option PO := match Nat.beq m l with
  | true => some (.val (.slice (some a) (Nat.sub h l) (Nat.sub m l)))
  | false => some (.val (.slice (some (addN a (Nat.mul l sz))) (Nat.sub h l) (Nat.sub m l)))
def pureOp (P : Program) (ev : Operand → Option Value) (rd : Rd) (o : Oper) : Option PO :=
  match o.op with
  | .move x | .assign x => match ev x with | some v => some (.val v) | none => none
  | .pick c a b => match ev c with
    | some (.bool true) => match ev a with | some v => some (.val v) | none => none
    | some (.bool false) => match ev b with | some v => some (.val v) | none => none
    | _ => none
  | .alloc t => match zeroT P t with
    | some z => some (.new (.row (rowOf (cellsV z)) (List.length (cellsV z)) t false false) .ptr)
    | none => none
  | .box t x => match ev x with
    | some v => some (.new (.row (rowOf (cellsV v)) (List.length (cellsV v)) t false false) .ptr)
    | none => none
  | .build t parts => match zeroT P t, P.underlying t with
    | some z, some (.struct fs) => match sizesOk P fs.toList with
      | true => match partsF ev (placeF P fs.toList) parts.toList (cellsV z) with
        | some l => some (.val (.agg ⟨l⟩))
        | none => none
      | false => none
    | some z, some (.array _ e) => match sizeT P e with
      | some sz => match partsF ev (fun i => some (Nat.mul i sz, sz)) parts.toList (cellsV z) with
        | some l => some (.val (.agg ⟨l⟩))
        | none => none
      | none => none
    | _, _ => none
  | .buildSlice t len parts => match P.underlying t with
    | some (.slice e) => match elemZ P e with
      | some (sz, z) => match Nat.ble (Nat.mul len sz) 100000 with
        | true => match partsF ev (fun i => some (Nat.mul i sz, sz)) parts.toList (repL len z) with
          | some l => some (.new (.row (rowOf l) (List.length l) e false false) (.slice len len))
          | none => none
        | false => none
      | none => none
    | _ => none
  | .load t a => match ev a, tk P t with
    | some (.pointer (some a)), some k => match loadA rd a k with | some v => some (.val v) | none => none
    | _, _ => none
  | .nilCheck x => match ev x with
    | some (.pointer (some a)) => some (.val (.pointer (some a)))
    | some (.func (.func f) a b) => some (.val (.func (.func f) a b))
    | _ => none
  | .binOp op t x y _ => match ev x, ev y with
    | some a, some b => match binF P rd op t x y a b with | some v => some (.val v) | none => none
    | _, _ => none
  | .unOp op _ x => match op, ev x with
    | .not, some (.bool b) => some (.val (.bool (notB b)))
    | .neg, some (.int k n) => some (.val (.int k (wrapF k (Int.neg n))))
    | _, _ => none
  | .convert src dst x => match P.underlying src, P.underlying dst, ev x with
    | some (.int _), some (.int k), some (.int _ n) => some (.val (.int k (wrapF k n)))
    | some .string, some .string, some (.string s) => some (.val (.string s))
    | some .string, some (.slice e), some (.string s) => match P.underlying e, sizeT P e with
      | some (.int .u8), some 1 => some (.new (.row (rowOf (s.data.toList.map fun b => .int .u8 (.ofNat b.toNat))) (List.length s.data.toList) e true true) (.slice (List.length s.data.toList) (Nat.add OPEN 1)))
      | _, _ => none
    | some (.pointer t), some .unsafePointer, some (.pointer (some a)) => match a.spot, rd a.block, sizeT P t with
      | none, some (.row _ n _ _ _), some (_ + 1) => match Nat.ble (Nat.succ a.off) n with
        | true => some (.val (.pointer (some a)))
        | false => none
      | _, _, _ => none
    | some .unsafePointer, some (.pointer u), some (.pointer (some a)) => match a.spot, rd a.block, sizeT P u with
      | none, some (.row _ n e false _), some _ => match liesAt P P.depth e (n / P.cellsOf e) a.off u 1 with
        | true => some (.val (.pointer (some a)))
        | false => none
      | _, _, _ => none
    | some (.slice e), some .string, some (.slice none _ _) => match P.underlying e with
      | some (.int .u8) => some (.val (.string ⟨⟨[]⟩⟩))
      | _ => none
    | some (.slice e), some .string, some (.slice (some a) n _) => match P.underlying e, loadA rd a (.many n) with
      | some (.int .u8), some (.agg ⟨l⟩) => match bytesOf l with | some b => some (.val (.string ⟨⟨b⟩⟩)) | none => none
      | _, _ => none
    | _, _, _ => none
  | .makeInterface t x => match P.underlying t, ev x with
    | some (.interface _), _ => none
    | some _, some v => some (.val (.iface t v))
    | _, _ => none
  | .makeFunc fn first cap => match fn with
    | .func f => match opvs ev first.toList, opvs ev cap.toList with
      | some a, some b => some (.val (.func (.func f) ⟨a⟩ ⟨b⟩))
      | _, _ => none
    | _ => none
  | .makeMap t r => match r with
    | none => some (.new (.map [] 0) .map)
    | some x => match P.underlying t, ev x with
      | some (.map _ _), some (.int _ _) => some (.new (.map [] 0) .map)
      | _, _ => none
  | .makeSlice t l c => match P.underlying t, ev l, ev c with
    | some (.slice e), some (.int _ (.ofNat l)), some (.int _ (.ofNat c)) => match elemZ P e, P.info? e with
      | some (sz, z), some i => match Nat.ble l c, Nat.ble (Nat.mul c sz) 100000, Nat.ble c 100000, Nat.ble (Nat.mul i.bytes c) 1000000000000 with
        | true, true, true, true => some (.new (.row (rowOf (repL c z)) (Nat.mul c sz) e false false) (.slice l c))
        | _, _, _, _ => none
      | _, _ => none
    | _, _, _ => none
  | .slice t x lo hi mx => match P.underlying t, ev x, opvO ev lo, opvO ev hi, opvO ev mx with
    | some .string, some (.string s), some lo, some hi, some none =>
      match boundF hi (List.length s.data.toList) (List.length s.data.toList) with
      | some h => match boundF lo 0 h with
        | some l => match dropL l s.data.toList with
          | some r => match takeL (Nat.sub h l) r with
            | some q => some (.val (.string ⟨⟨q⟩⟩))
            | none => none
          | none => none
        | none => none
      | none => none
    | some (.slice e), some (.slice none 0 0), some lo, some hi, some none =>
      match boundF hi 0 0, boundF lo 0 0, sizeT P e with
      | some _, some _, some _ => some (.val (.slice none 0 0))
      | _, _, _ => none
    | some (.slice e), some (.slice (some a) len cap), some lo, some hi, some mx => match sizeT P e with
      | some sz => match Nat.beq cap (Nat.add OPEN sz) with
        | true => match mx with
          | none => match boundF hi len len with
            | some h => match boundF lo 0 h with
              | some l => some (.val (.slice (some (addN a (Nat.mul l sz))) (Nat.sub h l) (Nat.add OPEN sz)))
              | none => none
            | none => none
          | some mv => match boundF (some mv) 0 len with
            | some m => match hi, Nat.ble (Nat.succ m) OPEN with
              | some hv, true => match boundF (some hv) 0 m with
                | some h => match boundF lo 0 h with
                  | some l => sliceTo a sz l h m
                  | none => none
                | none => none
              | _, _ => none
            | none => none
        | false => match Nat.ble (Nat.succ cap) OPEN with
          | true => match mx, hi with
            | some _, none => none
            | _, _ => match boundF mx cap cap with
              | some m => match boundF hi len m with
                | some h => match boundF lo 0 h with
                  | some l => match Nat.ble h m with
                    | true => sliceTo a sz l h m
                    | false => none
                  | none => none
                | none => none
              | none => none
          | false => none
      | none => none
    | some (.array n e), some (.pointer (some a)), some lo, some hi, some none => match sizeT P e, Nat.ble n 1000000 with
      | some sz, true => match boundF hi n n with
        | some h => match boundF lo 0 h with
          | some l => sliceTo a sz l h n
          | none => none
        | none => none
      | _, _ => none
    | _, _, _, _, _ => none
  | .fieldAddr t x f => match P.underlying t, ev x with
    | some (.struct fs), some (.pointer (some a)) => match nth fs.toList f with
      | some fd => match sizeT P fd.type with
        | some (_ + 1) => match fd.offset with
          | 0 => some (.val (.pointer (some a)))
          | k => some (.val (.pointer (some (addN a k))))
        | _ => none
      | none => none
    | _, _ => none
  | .field t x f => match P.underlying t, ev x with
    | some (.struct fs), some (.agg cs) => match nth fs.toList f with
      | some fd => match partV P fd.type cs.toList fd.offset with | some v => some (.val v) | none => none
      | none => none
    | _, _ => none
  | .indexAddr t x i => match P.underlying t, ev x, ev i with
    | some (.array n e), some (.pointer (some a)), some (.int _ (.ofNat i)) => match Nat.ble (Nat.succ i) n, sizeT P e with
      | true, some sz => some (.val (.pointer (some (addN a (Nat.mul i sz)))))
      | _, _ => none
    | some (.slice e), some (.slice (some a) n _), some (.int _ (.ofNat i)) => match Nat.ble (Nat.succ i) n, sizeT P e with
      | true, some sz => some (.val (.pointer (some (addN a (Nat.mul i sz)))))
      | _, _ => none
    | _, _, _ => none
  | .index t x i => match P.underlying t, ev x, ev i with
    | some .string, some (.string s), some (.int _ (.ofNat i)) => match nth s.data.toList i with
      | some b => some (.val (.int .u8 (.ofNat b.toNat)))
      | none => none
    | some (.array n e), some (.agg cs), some (.int _ (.ofNat i)) => match Nat.ble (Nat.succ i) n, sizeT P e with
      | true, some sz => match partV P e cs.toList (Nat.mul i sz) with | some v => some (.val v) | none => none
      | _, _ => none
    | _, _, _ => none
  | .lookup t x i ok => match mapT P t, ev x, ev i with
    | some (k, e), some m, some key => match keyOk P k key with
      | false => none
      | true =>
        let es : Option (List MapEntry) := match m with
          | .map none => some []
          | .map (some r) => match rd r with | some (.map es _) => some es | _ => none
          | _ => none
        match es with
        | none => none
        | some es => match findK key es 0 with
          | none => none
          | some (some (_, v)) => some (.val (match ok with | true => .tuple ⟨[v, .bool true]⟩ | false => v))
          | some none => match zeroT P e with
            | some z => some (.val (match ok with | true => .tuple ⟨[z, .bool false]⟩ | false => z))
            | none => none
    | _, _, _ => none
  | .range t x => match P.underlying t, ev x with
    | some .string, some (.string s) => some (.new (.iter s 0) .ptr)
    | _, _ => none
  | .typeAssert x xt t ok => match P.underlying t, ev x with
    | some (.interface _), _ => none
    | some _, some .nilIface => match ok, zeroT P t with
      | true, some z => some (.val (.tuple ⟨[z, .bool false]⟩))
      | _, _ => none
    | some _, some (.iface u v) => match Nat.beq u t with
      | true => some (.val (match ok with | true => .tuple ⟨[v, .bool true]⟩ | false => v))
      | false => match ok, zeroT P t with
        | true, some z => some (.val (.tuple ⟨[z, .bool false]⟩))
        | _, _ => none
    | _, _ => none
  | .extract x i => match ev x with
    | some (.tuple vs) => match nth vs.toList i with | some v => some (.val v) | none => none
    | _ => none
  | .call c => match c.callee with
    | .builtin .len => match c.args.toList, c.argTypes.toList with
      | [x], [t] => match P.underlying t, ev x with
        | some .string, some (.string s) => some (.val (.int .i64 (.ofNat (List.length s.data.toList))))
        | some (.slice _), some (.slice _ n _) => some (.val (.int .i64 (.ofNat n)))
        | some (.array n _), some _ => some (.val (.int .i64 (.ofNat n)))
        | some (.map _ _), some (.map none) => some (.val (.int .i64 (.ofNat 0)))
        | some (.map _ _), some (.map (some r)) => match rd r with
          | some (.map es _) => some (.val (.int .i64 (.ofNat (List.length es))))
          | _ => none
        | _, _ => none
      | _, _ => none
    | .builtin .unsafeSliceData => match opvs ev c.args.toList with
      | some [.slice none _ _] => some (.val (.pointer none))
      | some [.slice (some a) (_ + 1) _] => some (.val (.pointer (some a)))
      | _ => none
    | .builtin .max => match opvs ev c.args.toList with
      | some [.int k a, .int _ b] => some (.val (.int k (maxI a b)))
      | _ => none
    | .builtin .min => match opvs ev c.args.toList with
      | some [.int k a, .int _ b] => some (.val (.int k (minI a b)))
      | _ => none
    | _ => none
  | _ => none
end
end Go.Ev

/- The evaluator: effects, regions, code, calls. -/
namespace Go.Ev
noncomputable section

def rdS (s : St) : Rd := fun a => match s.h.get a with | some (_, o) => some o | none => none
/-- Only what has not been turned since. -/
def rdL (s : St) (lim : Nat) : Rd := fun a => match s.h.get a with
  | some (k, o) => match Nat.ble (Nat.succ k) lim with | true => some o | false => none
  | none => none

def St.put (s : St) (a : Nat) (o : AObj) : St := ⟨s.h.set a (s.n, o), Nat.add s.n 1⟩
def St.new (s : St) (o : AObj) : St := ⟨s.h.set s.n (s.n, o), Nat.add s.n 1⟩
def St.kill (s : St) (a : Nat) : St := ⟨s.h.del a, s.n⟩

def setCells : List Value → Nat → Tri Value → Tri Value
  | [], _, t => t
  | v :: l, i, t => setCells l (Nat.add i 1) (t.set i v)

/-- Values of one cell each. -/
def oneL : List Value → Bool
  | [] => true
  | v :: l => match v with
    | .agg _ => false
    | .tuple _ => false
    | _ => oneL l
/-- A store of cells. -/
def storeA (s : St) (a : Addr) (l : List Value) : Option St :=
  match a.spot, rdS s a.block with
  | none, some (.row cs n e opn fz) => match Nat.ble (Nat.add a.off (List.length l)) n, oneL l with
    | true, true => some (s.put a.block (.row (setCells l a.off cs) n e opn fz))
    | _, _ => none
  | _, _ => none

/-- The cells of a slice. -/
def sliceCells (s : St) (sz : Nat) : Value → Option (List Value)
  | .slice none 0 _ => some []
  | .slice (some a) n _ => match a.spot, rdS s a.block with
    | none, some (.row cs m _ _ _) => match Nat.ble (Nat.add a.off (Nat.mul n sz)) m with
      | true => cellsFrom cs (Nat.mul n sz) a.off
      | false => none
    | _, _ => none
  | .string b => match sz with
    | 1 => some (b.data.toList.map fun x => .int .u8 (.ofNat x.toNat))
    | _ => none
  | _ => none

def lenV : Value → Option Nat
  | .slice _ n _ => some n
  | .string b => some (List.length b.data.toList)
  | _ => none

/-- The row in which a slice lies, and where. -/
def sliceRow (s : St) (sz : Nat) : Value → Option (Tri Value × Nat)
  | .slice none 0 _ => some (.leaf, 0)
  | .slice (some a) n _ => match a.spot, rdS s a.block with
    | none, some (.row cs m _ _ _) => match Nat.ble (Nat.add a.off (Nat.mul n sz)) m with
      | true => some (cs, a.off)
      | false => none
    | _, _ => none
  | _ => none
def cellsL (cs : Tri Value) : Nat → Nat → List Value
  | 0, _ => []
  | k + 1, i => (match cs.get i with | some v => v | none => undef) :: cellsL cs k (Nat.add i 1)
/-- k cells of a row from a place on, and new ones behind them. -/
def growT (cs : Tri Value) (off k : Nat) (new : List Value) : Tri Value := match off with
  | 0 => setCells new k cs
  | _ => rowOf (cellsL cs k off ++ new)
/-- A slice that has outgrown its row. -/
def growF (P : Program) (e : TypeId) (sz n m : Nat) (x : Value) (new : List Value) (s : St) (fz : Bool) : Option (Value × St) :=
  match P.info? e, sliceRow s sz x, Nat.ble (Nat.add n m) 100000 with
  | some i, some old, true => match Nat.ble i.bytes 100000 with
    | true => some (.slice (some ⟨s.n, 0, none⟩) (Nat.add n m) (Nat.add OPEN sz), s.new (.row (growT old.1 old.2 (Nat.mul n sz) new) (Nat.mul (Nat.add n m) sz) e true fz))
    | false => none
  | _, _, _ => none
def appendF (P : Program) (t : TypeId) (x y : Value) (s : St) : Option (Value × St) :=
  match P.underlying t with
  | some (.slice e) => match elemZ P e, lenV y with
    | some (sz, _), some m => match sliceCells s sz y, x with
      | some new, .slice base n cap => match Nat.beq cap (Nat.add OPEN sz) with
        | false => match Nat.ble (Nat.succ cap) OPEN with
          | false => none
          | true => match Nat.ble (Nat.add n m) cap with
            | true => match base with
              | none => some (x, s)
              | some a => match storeA s ⟨a.block, Nat.add a.off (Nat.mul n sz), a.spot⟩ new with
                | some s' => some (.slice base (Nat.add n m) cap, s')
                | none => none
            | false => growF P e sz n m x new s false
        | true => match m with
          | 0 => some (x, s)
          | _ + 1 => match base with
            | some a => match rdS s a.block, oneL new with
              | some (.row _ _ e' true fz), true => match Nat.beq e e' with
                | true => match growF P e sz n m x new s fz with
                  | some (v, s') => some (v, s'.kill a.block)
                  | none => none
                | false => none
              | _, _ => none
            | none => none
      | _, _ => none
    | _, _ => none
  | _ => none

def setE (k v : Value) : Nat → List MapEntry → List MapEntry
  | _, [] => []
  | 0, e :: es => ⟨k, v, e.born⟩ :: es
  | n + 1, e :: es => e :: setE k v n es

def delE : Nat → List MapEntry → List MapEntry
  | _, [] => []
  | 0, _ :: es => es
  | n + 1, e :: es => e :: delE n es

abbrev CallF := Tgt → List Value → St → Option COut

/-- A target that is called. -/
def invF (P : Program) (call : CallF) (f : Value) (args : List Value) (s : St) : Option COut :=
  match f with
  | .func (.func f) first cap => call (.fn f) (first.toList ++ args ++ cap.toList) s
  | .func (.yield l) ⟨[]⟩ ⟨[]⟩ => call (.round l) args s
  | _ => none

def effOp (P : Program) (call : CallF) (ev : Operand → Option Value) (s : St) (o : Oper) : Option COut :=
  match o.op with
  | .store t a x => match ev a, ev x, sizeT P t with
    | some (.pointer (some a)), some v, some n => match Nat.beq (List.length (cellsV v)) n with
      | true => match storeA s a (cellsV v) with
        | some s' => some ⟨.ret undef, s'⟩
        | none => none
      | false => none
    | _, _, _ => none
  | .mapUpdate t m k x => match mapT P t, ev m, ev k, ev x with
    | some (kt, _), some (.map (some r)), some key, some v => match keyOk P kt key, rdS s r with
      | true, some (.map es clock) => match findK key es 0 with
        | some (some (i, _)) => some ⟨.ret undef, s.put r (.map (setE key v i es) clock)⟩
        | some none => some ⟨.ret undef, s.put r (.map (es ++ [⟨key, v, clock⟩]) (Nat.add clock 1))⟩
        | none => none
      | _, _ => none
    | _, _, _, _ => none
  | .next i true => match ev i with
    | some (.pointer (some ⟨r, 0, none⟩)) => match rdS s r with
      | some (.iter b pos) => match Nat.ble (Nat.succ pos) (List.length b.data.toList) with
        | true => match nth b.data.toList pos with
          | some c => match Nat.ble (Nat.succ c.toNat) 128 with
            | true => some ⟨.ret (.tuple ⟨[.bool true, .int .i64 (.ofNat pos), .int .i32 (.ofNat c.toNat)]⟩), s.put r (.iter b (Nat.add pos 1))⟩
            | false => none
          | none => none
        | false => some ⟨.ret (.tuple ⟨[.bool false]⟩), s⟩
      | _ => none
    | _ => none
  | .panic x => match ev x with
    | some (.iface t v) => some ⟨.panic (.iface t v), s⟩
    | _ => none
  | .call c => match c.callee with
    | .value f => match ev f, opvs ev c.args.toList with
      | some f, some l => invF P call f l s
      | _, _ => none
    | .builtin .unsafeString => match opvs ev c.args.toList with
      | some [.pointer none, .int _ (.ofNat 0)] => match c.argTypes.toList with
        | _ :: _ => some ⟨.ret (.string ⟨⟨[]⟩⟩), s⟩
        | [] => none
      | some [.pointer (some a), .int _ (.ofNat n)] => match andB (Nat.ble 1 n) (Nat.ble n 1000000) with
       | false => none
       | true => match a.spot, rdS s a.block, c.argTypes.toList with
        | none, some (.row cs m e _ _), [pt, _] => match P.underlying e, P.underlying pt, Nat.ble (Nat.add a.off n) m, cellsFrom cs n a.off with
          | some (.int .u8), some (.pointer pe), true, some l => match P.underlying pe, bytesOf l, sizeT P e with
            | some (.int .u8), some b, some 1 => some ⟨.ret (.string ⟨⟨b⟩⟩), s.kill a.block⟩
            | _, _, _ => none
          | _, _, _, _ => none
        | _, _, _ => none
      | _ => none
    | .builtin .append => match c.argTypes.toList, opvs ev c.args.toList with
      | [t, t2], some [x, y] => match P.underlying t2 with
        | some (.int _) => none
        | some _ => match appendF P t x y s with
          | some (v, s') => some ⟨.ret v, s'⟩
          | none => none
        | none => none
      | _, _ => none
    | _ => none
  | _ => none

/-- Is an operation one that may turn something? -/
def isEff (o : Oper) : Bool :=
  match o.op with
  | .store .. | .mapUpdate .. | .next .. | .panic _ => true
  | .call c => match c.callee with
    | .builtin .len | .builtin .max | .builtin .min | .builtin .unsafeSliceData => false
    | _ => true
  | _ => false

def lkB (t : Tri Value) (d : Nat) : Option Bool := match t.get d with
  | some (.bool b) => some b
  | _ => none

def eqB : Bool → Bool → Bool
  | true, b => b
  | false, b => notB b

/-- Is the operation wanted? -/
def wantF (ops : List Oper) (t : Tri Value) (o : Oper) : Bool :=
  match o.guard with
  | none => true
  | some (j, want) => match nth ops j with
    | some oj => match oj.dst with
      | some d => match lkB t d with
        | some b => eqB b want
        | none => false
      | none => false
    | none => false

def putT (nt : Nat) (t : Tri Value) (d : Option Tmp) (v : Value) : Option (Tri Value) := match d with
  | none => some t
  | some d => match Nat.ble (Nat.succ d) nt with
    | true => some (t.set d v)
    | false => none

def poDo (s : St) : PO → Value × St
  | .val v => (v, s)
  | .new o v => (v.at s.n, s.new o)

/-- A call that is put off. -/
def dferF (ev : Operand → Option Value) (o : Oper) : Option Deferred := match o.op with
  | .defer c => match c.callee with
    | .value f => match ev f, opvs ev c.args.toList with
      | some (.func (.func f) first cap), some l => some ⟨.fn (.func f) cap, ⟨first.toList ++ l⟩⟩
      | _, _ => none
    | _ => none
  | _ => none

/-- What an operation comes to. -/
inductive Step where
  | go (t : Tri Value) (s : St)
  | dfr (x : Deferred) (t : Tri Value) (s : St)
  | boom (v : Value) (t : Tri Value) (s : St)

def opF (P : Program) (call : CallF) (nt : Nat) (ops : List Oper) (t : Tri Value) (s : St) (o : Oper) : Option Step :=
  match wantF ops t o with
  | false => match putT nt t o.dst undef with | some t' => some (.go t' s) | none => none
  | true => match isEff o with
    | false => match pureOp P (opv P t) (rdS s) o with
      | some po => match poDo s po with
        | (v, s') => match putT nt t o.dst v with | some t' => some (.go t' s') | none => none
      | none => match dferF (opv P t) o with
        | some x => match putT nt t o.dst undef with | some t' => some (.dfr x t' s) | none => none
        | none => none
    | true => match effOp P call (opv P t) s o with
      | some ⟨.ret v, s'⟩ => match putT nt t o.dst v with | some t' => some (.go t' s') | none => none
      | some ⟨.panic v, s'⟩ => some (.boom v t s')
      | none => none

inductive Steps' where
  | go (t : Tri Value) (d : List Deferred) (s : St)
  | boom (v : Value) (t : Tri Value) (d : List Deferred) (s : St)

def opsF (P : Program) (call : CallF) (nt : Nat) (ops : List Oper) : List Oper → Tri Value → List Deferred → St → Option Steps'
  | [], t, d, s => some (.go t d s)
  | o :: l, t, d, s => match opF P call nt ops t s o with
    | some (.go t' s') => opsF P call nt ops l t' d s'
    | some (.dfr x t' s') => opsF P call nt ops l t' (x :: d) s'
    | some (.boom v t' s') => some (.boom v t' d s')
    | none => none

/- ---- a region that draws ---- -/
def bind1 (e : Edge) : Bool := match e.ground with
  | .textOnly _ | .gcOnly _ => false
  | _ => true

/-- The ancestors of an operation, as bits; accs: those of the ones ahead of it. -/
def ancOf (accs : List Nat) : List Edge → Nat
  | [] => 0
  | e :: l => match bind1 e with
    | true => Nat.lor (Nat.lor (Nat.pow 2 e.on) (match nth accs e.on with | some m => m | none => 0)) (ancOf accs l)
    | false => ancOf accs l
def ancs : List Oper → List Nat → List Nat
  | [], accs => accs
  | o :: l, accs => ancs l (accs ++ [ancOf accs o.after.toList])
def bit (m i : Nat) : Bool := Nat.beq (Nat.mod (Nat.div m (Nat.pow 2 i)) 2) 1

/-- Is an operation a store? -/
def isStore (o : Oper) : Bool := match o.op with
  | .store .. => true
  | _ => false
/-- Behind i there are no effects but stores. -/
def tailOnly : List Oper → Bool
  | [] => true
  | o :: l => match isEff o, isStore o with
    | true, false => false
    | _, _ => tailOnly l

/-- What must be ahead of an effect and has not been: m its ancestors, done what has been. -/
def pick (m done : Nat) : List Oper → Nat → List Nat
  | [], _ => []
  | o :: l, i => match isEff o, bit m i, bit done i with
    | false, true, false => i :: pick m done l (Nat.add i 1)
    | _, _, _ => pick m done l (Nat.add i 1)
def bitsOf : List Nat → Nat
  | [] => 0
  | i :: l => Nat.lor (Nat.pow 2 i) (bitsOf l)
/-- The order: each effect behind what must be ahead of it; tl: from the first effect of the tail on no effect. -/
def stagesGo (ops : List Oper) (an : List Nat) (tl : Bool) : List Oper → Nat → Nat → List Nat × List Nat × Nat
  | [], _, done => ([], [], done)
  | o :: l, i, done => match isEff o, (match tl with | true => (match isStore o with | true => tailOnly l | false => false) | false => false) with
    | true, false =>
      let now := pick (match nth an i with | some m => m | none => 0) done ops 0
      match stagesGo ops an tl l (Nat.add i 1) (Nat.lor done (Nat.lor (bitsOf now) (Nat.pow 2 i))) with
      | (st, es, d) => (now ++ i :: st, i :: es, d)
    | _, _ => stagesGo ops an tl l (Nat.add i 1) done
/-- Are all effects one behind the other? -/
def chainFrom (an : List Nat) (i : Nat) : List Oper → Nat → Bool
  | [], _ => true
  | o :: l, j => match isEff o, bit (match nth an j with | some m => m | none => 0) i with
    | true, false => false
    | _, _ => chainFrom an i l (Nat.add j 1)
def chainAll (an : List Nat) : List Oper → Nat → Bool
  | [], _ => true
  | o :: l, i => match (match isEff o with | true => chainFrom an i l (Nat.add i 1) | false => true) with
    | true => chainAll an l (Nat.add i 1)
    | false => false
/-- All that is left, in the order of the text. -/
def leftOf (done : Nat) : List Oper → Nat → List Nat
  | [], _ => []
  | _ :: l, i => match bit done i with
    | false => i :: leftOf done l (Nat.add i 1)
    | true => leftOf done l (Nat.add i 1)

def usesTmp (t : Nat) : List Operand → Bool
  | [] => false
  | .tmp u :: l => match Nat.beq u t with | true => true | false => usesTmp t l
  | _ :: l => usesTmp t l

/-- All that is asked of a region that draws, by its text alone. -/
def okEdges (i : Nat) : List Edge → Bool
  | [] => true
  | e :: l => match bind1 e with
    | true => match Nat.ble (Nat.succ e.on) i with | true => okEdges i l | false => false
    | false => okEdges i l
/-- i < j: no two set one temporary; who names what the other one sets is behind it, or ahead. -/
def okPair (mj i : Nat) (oi oj : Oper) : Bool :=
  match (match oi.dst, oj.dst with | some d, some e => Nat.beq d e | _, _ => false) with
  | true => false
  | false => match bit mj i with
    | true => true
    | false => match (match oi.dst with | some d => usesTmp d oj.op.operands.toList | none => false), (match oj.dst with | some d => usesTmp d oi.op.operands.toList | none => false) with
      | false, false => true
      | _, _ => false
def okPairs (an : List Nat) (i : Nat) (oi : Oper) : List Oper → Nat → Bool
  | [], _ => true
  | oj :: l, j => match nth an j with
    | some m => match okPair m i oi oj with
      | true => okPairs an i oi l (Nat.add j 1)
      | false => false
    | none => false
def okGuard (m : Nat) (o : Oper) : Bool := match o.guard with
  | none => true
  | some (j, _) => bit m j
def okDrawGo (an : List Nat) : List Oper → Nat → Bool
  | [], _ => true
  | o :: l, i => match nth an i with
    | some m => match okEdges i o.after.toList, okPairs an i o l (Nat.add i 1), okGuard m o with
      | true, true, true => okDrawGo an l (Nat.add i 1)
      | _, _, _ => false
    | none => false

def allBits (m : Nat) : List Nat → Bool
  | [] => true
  | e :: l => match bit m e with
    | true => allBits m l
    | false => false
/-- An order with all ancestors ahead; an effect has all that is ahead of it as an ancestor. -/
def chkS (ops : List Oper) (an : List Nat) : List Nat → Nat → Option Nat
  | [], done => some done
  | i :: l, done => match bit done i, nth ops i, nth an i with
    | false, some o, some m => match (match isEff o with | true => Nat.beq m done | false => Nat.beq (Nat.land m done) m) with
      | true => chkS ops an l (Nat.lor done (Nat.pow 2 i))
      | false => none
    | _, _, _ => none
/-- The tail: stores behind all effects, the rest turns nothing. -/
def chkT (ops : List Oper) (an : List Nat) (effs : List Nat) : List Nat → Nat → Option Nat
  | [], done => some done
  | i :: l, done => match bit done i, nth ops i, nth an i with
    | false, some o, some m => match Nat.beq (Nat.land m done) m, (match isStore o with | true => allBits m effs | false => notB (isEff o)) with
      | true, true => chkT ops an effs l (Nat.lor done (Nat.pow 2 i))
      | _, _ => none
    | _, _, _ => none
/-- Does the order end with an effect, or is it empty? -/
def endsEff (ops : List Oper) : List Nat → Bool
  | [] => true
  | i :: l => match l with
    | [] => (match nth ops i with | some o => isEff o | none => false)
    | _ :: _ => endsEff ops l
def effsOf (ops : List Oper) : List Nat → List Nat
  | [] => []
  | i :: l => match nth ops i with
    | some o => (match isEff o with | true => i :: effsOf ops l | false => effsOf ops l)
    | none => effsOf ops l

structure Plan where
  sig : List Nat
  tau : List Nat
  an : List Nat
  effs : List Nat
def okPlan (ops : List Oper) (pl : Plan) : Bool :=
  match chkS ops pl.an pl.sig 0 with
  | some d => match chkT ops pl.an pl.effs pl.tau d with
    | some d' => match nilB (leftOf d' ops 0), (match pl.tau with | [] => true | _ :: _ => endsEff ops pl.sig) with
      | true, true => true
      | _, _ => false
    | none => false
  | none => false
def planOf (ops : List Oper) : Option Plan :=
  let an := ancs ops []
  match okDrawGo an ops 0 with
  | false => none
  | true =>
    let tl := notB (chainAll an ops 0)
    match stagesGo ops an tl ops 0 0 with
    | (st, _, done) =>
      let rest := leftOf done ops 0
      let pl : Plan := match tl with
        | true => ⟨st, rest, an, effsOf ops st⟩
        | false => ⟨st ++ rest, [], an, effsOf ops (st ++ rest)⟩
      match okPlan ops pl with
      | true => some pl
      | false => none

/-- How many of the effects are among the ancestors. -/
def cntE (m : Nat) : List Nat → Nat
  | [] => 0
  | e :: l => match bit m e with
    | true => Nat.add 1 (cntE m l)
    | false => cntE m l
def clkE (o : Oper) (clks : List Nat) (n : Nat) : List Nat := match isEff o with
  | true => clks ++ [n]
  | false => clks
/-- The operations in the plan's order; what one reads that turns nothing has not been turned since the last effect that must be ahead of it. -/
def seqF (P : Program) (call : CallF) (nt : Nat) (ops : List Oper) (an effs : List Nat) : List Nat → List Nat → Tri Value → St → Option (Tri Value × St)
  | [], _, t, s => some (t, s)
  | i :: l, clks, t, s => match nth ops i, nth an i with
    | some o, some m => match wantF ops t o with
      | false => match putT nt t o.dst undef with
        | some t' => seqF P call nt ops an effs l (clkE o clks s.n) t' s
        | none => none
      | true => match isEff o with
        | true => match effOp P call (opv P t) s o with
          | some ⟨.ret v, s'⟩ => match putT nt t o.dst v with
            | some t' => seqF P call nt ops an effs l (clks ++ [s'.n]) t' s'
            | none => none
          | _ => none
        | false => match nth clks (cntE m effs) with
          | some lim => match pureOp P (opv P t) (rdL s lim) o with
            | some po => match putT nt t o.dst (poDo s po).1 with
              | some t' => seqF P call nt ops an effs l clks t' (poDo s po).2
              | none => none
            | none => none
          | none => none
    | _, _ => none

def memN (a : Nat) : List Nat → Bool
  | [] => false
  | b :: l => match Nat.beq a b with | true => true | false => memN a l

/-- The last stage, where stores may stand in any order: nothing is read, each store is to a block of its own. -/
def tailF (P : Program) (nt : Nat) (ops : List Oper) : List Nat → List Nat → Tri Value → St → Option (Tri Value × St)
  | [], _, t, s => some (t, s)
  | i :: l, hit, t, s => match nth ops i with
    | none => none
    | some o => match wantF ops t o with
      | false => match putT nt t o.dst undef with
        | some t' => tailF P nt ops l hit t' s
        | none => none
      | true => match o.op with
        | .store ty a x => match opv P t a, opv P t x, sizeT P ty with
          | some (.pointer (some a)), some v, some n => match Nat.beq (List.length (cellsV v)) n, memN a.block hit with
            | true, false => match storeA s a (cellsV v), putT nt t o.dst undef with
              | some s', some t' => tailF P nt ops l (a.block :: hit) t' s'
              | _, _ => none
            | _, _ => none
          | _, _, _ => none
        | _ => match isEff o, pureOp P (opv P t) (fun _ => none) o with
          | false, some (.val v) => match putT nt t o.dst v with
            | some t' => tailF P nt ops l hit t' s
            | none => none
          | _, _ => none

/-- A region that draws. -/
def drawF (P : Program) (call : CallF) (nt : Nat) (ops : List Oper) (t : Tri Value) (d : List Deferred) (s : St) : Option Steps' :=
  match planOf ops with
  | none => none
  | some pl => match seqF P call nt ops pl.an pl.effs pl.sig [s.n] t s with
    | some (t', s') => match tailF P nt ops pl.tau [] t' s' with
      | some (t'', s'') => some (.go t'' d s'')
      | none => none
    | none => none

/- ---- code ---- -/
/-- Within a round nothing is put off. -/
def okD : Option Nat → List Deferred → Bool
  | none, _ => true
  | some _, d => nilB d
/-- Where a loop over a function begins: its record, and the block of the rounds' deferred calls. -/
def enterF (r : Option Nat) (t : Tri Value) (nt : Nat) (ps : List Tmp) (assign body : Code) (s : St) : Option (Nat × List Deferred × St) :=
  match r with
  | some l => match rdS s l with
    | some (.loop _ _ _ _ _ _ _ dn) => some (s.n, [], s.new (.loop .ready none t nt ps assign body dn))
    | _ => none
  | none =>
    let s1 := s.new (.dfd true)
    some (s1.n, [⟨.collected s.n, #[]⟩], s1.new (.loop .ready none t nt ps assign body s.n))
def endF (l : Nat) (s : St) : Option (Option Code × St) :=
  match rdS s l with
  | some (.loop st p t nt ps asg bo dn) => match st with
    | .busy => none
    | _ => some (p, s.put l (.loop .exhausted p t nt ps asg bo dn))
  | _ => none

/-- A function value with a body. -/
def hasBody (P : Program) : Value → Bool
  | .func (.func f) _ _ => match P.funcs[f]? with
    | some fn => match fn.body with | some _ => true | none => false
    | none => false
  | _ => false
mutual
def codeF (P : Program) (call : CallF) (r : Option Nat) (nt : Nat) : Nat → Code → Tri Value → List Deferred → St → Option Out
  | 0, _, _, _, _ => none
  | n + 1, c, t, d, s =>
    match c with
    | .skip | .label _ => some ⟨.normal, t, d, s⟩
    | .region _ ops draw => match (match draw with
        | false => opsF P call nt ops.toList ops.toList t d s
        | true => drawF P call nt ops.toList t d s) with
      | some (.go t' d' s') => (match okD r d' with | true => some ⟨.normal, t', d', s'⟩ | false => none)
      | some (.boom v t' d' s') => (match okD r d' with | true => some ⟨.panic v, t', d', s'⟩ | false => none)
      | none => none
    | .seq a b => match codeF P call r nt n a t d s with
      | some ⟨.normal, t', d', s'⟩ => codeF P call r nt n b t' d' s'
      | r => r
    | .cond c a b => match opv P t c with
      | some (.bool true) => codeF P call r nt n a t d s
      | some (.bool false) => codeF P call r nt n b t d s
      | _ => none
    | .block id body => match codeF P call r nt n body t d s with
      | some ⟨.exit k, t', d', s'⟩ => match Nat.beq k id with
        | true => some ⟨.normal, t', d', s'⟩
        | false => some ⟨.exit k, t', d', s'⟩
      | r => r
    | .loop body => match codeF P call r nt n body t d s with
      | some ⟨.normal, t', d', s'⟩ => codeF P call r nt n (.loop body) t' d' s'
      | r => r
    | .exit id => some ⟨.exit id, t, d, s⟩
    | .goto l => some ⟨.goto l, t, d, s⟩
    | .ret => some ⟨.ret, t, d, s⟩
    | .scope body => scopeF P call r nt body n body t d s
    | .rangeFunc f ps assign body => match opv P t f, enterF r t nt ps.toList assign body s with
      | some g, some (l, mark, s1) => match hasBody P g with
        | false => none
        | true => match invF P call g [.func (.yield l) #[] #[]] s1 with
          | some ⟨.ret _, s2⟩ => match endF l s2 with
            | some (none, s3) => some ⟨.normal, t, mark ++ d, s3⟩
            | some (some c, s3) => codeF P call r nt n c t (mark ++ d) s3
            | none => none
          | _ => none
      | _, _ => none
    | _ => none
  termination_by structural n => n
def scopeF (P : Program) (call : CallF) (r : Option Nat) (nt : Nat) (whole : Code) : Nat → Code → Tri Value → List Deferred → St → Option Out
    | 0, _, _, _, _ => none
    | m + 1, c, t, d, s => match codeF P call r nt m c t d s with
      | some ⟨.goto l, t', d', s'⟩ => match findLabel whole l with
        | some rest => scopeF P call r nt whole m rest t' d' s'
        | none => none
      | r => r
  termination_by structural n => n
end

/- ---- calls ---- -/
def resF (P : Program) (t : Tri Value) (s : St) : List ResultVar → Option (List Value)
  | [] => some []
  | r :: l => match (match r with
      | .tmp i => match t.get i with | some v => some v | none => some undef
      | .cell i ty => match t.get i, tk P ty with
        | some (.pointer (some a)), some k => loadA (rdS s) a k
        | _, _ => none) with
    | some v => match resF P t s l with
      | some vs => some (v :: vs)
      | none => none
    | none => none
def tupF : List Value → Value
  | [v] => v
  | l => .tuple ⟨l⟩

/-- How a frame that is left stands. -/
inductive Md where
  | out
  | pan (v : Value)
  | rec_ (v : Value)

def isRec (o : Oper) : Bool := match o.op with
  | .call c => (match c.callee with | .builtin .recover => true | _ => false)
  | _ => false
/-- The operations of a deferred call's region. -/
def opsR (P : Program) (call : CallF) (nt : Nat) (ops : List Oper) : List Oper → Tri Value → Md → St → Option (Tri Value × Md × St)
  | [], t, m, s => some (t, m, s)
  | o :: l, t, m, s => match isRec o with
    | true => match wantF ops t o with
      | true => (match m with
        | .pan v => (match putT nt t o.dst v with | some t' => opsR P call nt ops l t' (.rec_ v) s | none => none)
        | m => (match putT nt t o.dst .nilIface with | some t' => opsR P call nt ops l t' m s | none => none))
      | false => (match putT nt t o.dst undef with | some t' => opsR P call nt ops l t' m s | none => none)
    | false => match (match isEff o with | true => isStore o | false => true) with
      | false => none
      | true => match opF P call nt ops t s o with
        | some (.go t' s') => opsR P call nt ops l t' m s'
        | _ => none

def codeR (P : Program) (call : CallF) (nt : Nat) (n : Nat) : Code → Tri Value → Md → St → Option (Ex × Tri Value × Md × St)
  | .seq a b, t, m, s => match codeR P call nt n a t m s with
    | some (.normal, t', m', s') => codeR P call nt n b t' m' s'
    | r => r
  | .region _ ops false, t, m, s => match opsR P call nt ops.toList ops.toList t m s with
    | some (t', m', s') => some (.normal, t', m', s')
    | none => none
  | c, t, m, s => match codeF P call none nt n c t [] s with
    | some ⟨e, t', [], s'⟩ => some (e, t', m, s')
    | _ => none

def lenL {α : Type} : List α → Nat
  | [] => 0
  | _ :: l => Nat.add 1 (lenL l)

def argsT (args : List Value) : Tri Value := rowOf args

def deferF (P : Program) (call : CallF) (fuel : Nat) (f : FuncId) (args : List Value) (m : Md) (s : St) : Option (Md × St) :=
  match P.funcs[f]? with
  | some fn => match fn.body with
    | some c => match codeR P call (Nat.max fn.ntmps (lenL args)) fuel c (argsT args) m s with
      | some (.normal, t, m', s') | some (.ret, t, m', s') => match resF P t s' fn.results.toList with
        | some _ => some (match m' with | .rec_ _ => .out | m' => m', s')
        | none => none
      | _ => none
    | none => none
  | none => none

def leaveF (P : Program) (call : CallF) (fuel : Nat) (fn : Func) (t : Tri Value) : List Deferred → Md → St → Option COut
  | [], .out, s => match resF P t s fn.results.toList with
    | some vs => some ⟨.ret (tupF vs), s⟩
    | none => none
  | [], .pan v, s => some ⟨.panic v, s⟩
  | [], .rec_ _, _ => none
  | ⟨.collected r, _⟩ :: ds, m, s => match rdS s r with
    | some (.dfd true) => leaveF P call fuel fn t ds m (s.put r (.dfd false))
    | _ => none
  | ⟨.fn (.func f) cap, args⟩ :: ds, m, s => match deferF P call fuel f (args.toList ++ cap.toList) m s with
    | some (m', s') => leaveF P call fuel fn t ds m' s'
    | none => none
  | _ :: _, _, _ => none

/-- Functions without a body that the evaluator knows. -/
inductive Xt where
  | same | count | index
def countB (c : Nat) : List UInt8 → Nat → Nat
  | [], n => n
  | b :: l, n => match Nat.beq b.toNat c with
    | true => countB c l (Nat.add n 1)
    | false => countB c l n
def indexB (c : Nat) : List UInt8 → Nat → Int
  | [], _ => .negSucc 0
  | b :: l, i => match Nat.beq b.toNat c with
    | true => .ofNat i
    | false => indexB c l (Nat.add i 1)
def xtF (x : Xt) (args : List Value) : Option Value :=
  match x, args with
  | .same, [v] => some v
  | .count, [.string s, .int .u8 (.ofNat c)] => some (.int .i64 (.ofNat (countB (Nat.mod c 256) s.data.toList 0)))
  | .index, [.string s, .int .u8 (.ofNat c)] => some (.int .i64 (indexB (Nat.mod c 256) s.data.toList 0))
  | _, _ => none

/-- What is known of calls ahead of their run. -/
abbrev Summ := FuncId → List Value → St → Option (Option COut)
def xtSm (xt : FuncId → Option Xt) (sm : Summ) : Summ := fun f args s => match xt f with
  | some x => some (match xtF x args with | some v => some ⟨.ret v, s⟩ | none => none)
  | none => sm f args s

/-- Yield's arguments, laid into a round's temporaries. -/
def layP (nt : Nat) : List Tmp → List Value → Tri Value → Option (Tri Value)
  | [], [], t => some t
  | p :: ps, v :: vs, t => match Nat.ble (Nat.succ p) nt with
    | true => layP nt ps vs (t.set p v)
    | false => none
  | _, _, _ => none
def codeE : Ex → Option (Option Code)
  | .normal => some none
  | .ret => some (some .ret)
  | .exit id => some (some (.exit id))
  | .goto l => some (some (.goto l))
  | .panic _ => none
def endRoundF (l : Nat) (j : Option Code) (s : St) : Option COut :=
  match rdS s l with
  | some (.loop _ _ t nt ps asg bo dn) => match j with
    | none => some ⟨.ret (.bool true), s.put l (.loop .ready none t nt ps asg bo dn)⟩
    | some c => some ⟨.ret (.bool false), s.put l (.loop .done (some c) t nt ps asg bo dn)⟩
  | _ => none
def roundF (P : Program) (call : CallF) (fuel : Nat) (l : Nat) (args : List Value) (s : St) : Option COut :=
  match rdS s l with
  | some (.loop _ _ t nt ps asg bo _) => match layP nt ps args t with
    | some t1 => match codeF P call (some l) nt fuel asg t1 [] s with
      | some ⟨.normal, t2, [], s2⟩ => match rdS s2 l with
        | some (.loop .ready p t' nt' ps' asg' bo' dn') => match codeF P call (some l) nt fuel bo t2 [] (s2.put l (.loop .busy p t' nt' ps' asg' bo' dn')) with
          | some ⟨e, _, [], s3⟩ => match codeE e with
            | some j => endRoundF l j s3
            | none => none
          | _ => none
        | _ => none
      | _ => none
    | none => none
  | _ => none

def callF (P : Program) (sm : Summ) (fuel : Nat) : Nat → CallF
  | 0, _, _, _ => none
  | n + 1, .round l, args, s => roundF P (callF P sm fuel n) fuel l args s
  | n + 1, .fn f, args, s => match sm f args s with
    | some r => r
    | none => match P.funcs[f]? with
      | some fn => match fn.body with
        | some c => match codeF P (callF P sm fuel n) none (Nat.max fn.ntmps (lenL args)) fuel c (argsT args) [] s with
          | some ⟨.normal, t, d, s'⟩ | some ⟨.ret, t, d, s'⟩ => leaveF P (callF P sm fuel n) fuel fn t d .out s'
          | some ⟨.panic v, t, d, s'⟩ => leaveF P (callF P sm fuel n) fuel fn t d (.pan v) s'
          | _ => none
        | none => none
      | none => none
end
end Go.Ev

/- What names stand for: the relation between the evaluator's state and the program's memory. -/
namespace Go.Ev

/-- Where a name's block lies: the block, the first cell, how many elements, how many cells an element. -/
structure Loc where
  b : Nat
  o : Nat
  n : Nat
  z : Nat
abbrev Ren := Nat → Option Loc

mutual
inductive VRel (ρ : Ren) : Value → Value → Prop
  | bool (b : Bool) : VRel ρ (.bool b) (.bool b)
  | int (k : IntKind) (n : Int) : VRel ρ (.int k n) (.int k n)
  | float (k : FloatKind) (n : Nat) : VRel ρ (.float k n) (.float k n)
  | complex (k : FloatKind) (a b : Nat) : VRel ρ (.complex k a b) (.complex k a b)
  | string (s : ByteArray) : VRel ρ (.string s) (.string s)
  | ptr0 : VRel ρ (.pointer none) (.pointer none)
  | ptr (a o : Nat) (l : Loc) : ρ a = some l → VRel ρ (.pointer (some ⟨a, o, none⟩)) (.pointer (some ⟨l.b, l.o + o, none⟩))
  | sl0 : VRel ρ (.slice none 0 0) (.slice none 0 0)
  | sl (a o : Nat) (l : Loc) (p : Addr) (len cap : Nat) : ρ a = some l → cap < OPEN → len ≤ cap → (p = ⟨l.b, l.o + o, none⟩ ∨ cap = 0) → VRel ρ (.slice (some ⟨a, o, none⟩) len cap) (.slice (some p) len cap)
  | slo (a o k : Nat) (l : Loc) (p : Addr) (len cap : Nat) : ρ a = some l → o = k * l.z → k + cap = l.n → len ≤ cap → (p = ⟨l.b, l.o + o, none⟩ ∨ cap = 0) →
      VRel ρ (.slice (some ⟨a, o, none⟩) len (OPEN + l.z)) (.slice (some p) len cap)
  | map0 : VRel ρ (.map none) (.map none)
  | map (a : Nat) (l : Loc) : ρ a = some l → VRel ρ (.map (some a)) (.map (some l.b))
  | chan0 : VRel ρ (.chan none) (.chan none)
  | fn (f : FuncId) (xs ys xs' ys' : List Value) : LRel ρ xs xs' → LRel ρ ys ys' → VRel ρ (.func (.func f) ⟨xs⟩ ⟨ys⟩) (.func (.func f) ⟨xs'⟩ ⟨ys'⟩)
  | yield (a : Nat) (l : Loc) : ρ a = some l → VRel ρ (.func (.yield a) ⟨[]⟩ ⟨[]⟩) (.func (.yield l.b) ⟨[]⟩ ⟨[]⟩)
  | nilFunc : VRel ρ .nilFunc .nilFunc
  | nilIface : VRel ρ .nilIface .nilIface
  | iface (t : TypeId) (v v' : Value) : VRel ρ v v' → VRel ρ (.iface t v) (.iface t v')
  | agg (xs xs' : List Value) : LRel ρ xs xs' → VRel ρ (.agg ⟨xs⟩) (.agg ⟨xs'⟩)
  | tuple (xs xs' : List Value) : LRel ρ xs xs' → VRel ρ (.tuple ⟨xs⟩) (.tuple ⟨xs'⟩)
inductive LRel (ρ : Ren) : List Value → List Value → Prop
  | nil : LRel ρ [] []
  | cons (v v' : Value) (l l' : List Value) : VRel ρ v v' → LRel ρ l l' → LRel ρ (v :: l) (v' :: l')
end

def Ren.le (ρ ρ' : Ren) : Prop := ∀ a l, ρ a = some l → ρ' a = some l
theorem Ren.le.refl (ρ : Ren) : ρ.le ρ := fun _ _ h => h
theorem Ren.le.trans {ρ ρ' ρ'' : Ren} (h : ρ.le ρ') (h' : ρ'.le ρ'') : ρ.le ρ'' := fun a l e => h' a l (h a l e)

mutual
theorem VRel.mono {ρ ρ' : Ren} (h : ρ.le ρ') {v v' : Value} : VRel ρ v v' → VRel ρ' v v'
  | .bool b => .bool b
  | .int k n => .int k n
  | .float k n => .float k n
  | .complex k a b => .complex k a b
  | .string s => .string s
  | .ptr0 => .ptr0
  | .ptr a o l e => .ptr a o l (h _ _ e)
  | .sl0 => .sl0
  | .sl a o l p len cap e n e1 e2 => .sl a o l p len cap (h _ _ e) n e1 e2
  | .slo a o k l p len cap e e0 e1 e2 e3 => .slo a o k l p len cap (h _ _ e) e0 e1 e2 e3
  | .map0 => .map0
  | .map a l e => .map a l (h _ _ e)
  | .chan0 => .chan0
  | .fn f xs ys xs' ys' e e' => .fn f xs ys xs' ys' (LRel.mono h e) (LRel.mono h e')
  | .yield a l e => .yield a l (h _ _ e)
  | .nilFunc => .nilFunc
  | .nilIface => .nilIface
  | .iface t v v' e => .iface t v v' (VRel.mono h e)
  | .agg xs xs' e => .agg xs xs' (LRel.mono h e)
  | .tuple xs xs' e => .tuple xs xs' (LRel.mono h e)
theorem LRel.mono {ρ ρ' : Ren} (h : ρ.le ρ') {l l' : List Value} : LRel ρ l l' → LRel ρ' l l'
  | .nil => .nil
  | .cons v v' l l' e e' => .cons v v' l l' (VRel.mono h e) (LRel.mono h e')
end

theorem LRel.length {ρ : Ren} {l l' : List Value} (h : LRel ρ l l') : l'.length = l.length := by
  induction l generalizing l' with
  | nil => cases h; rfl
  | cons v l ih => cases h with | cons _ v' _ l' _ h => simp [ih h]
theorem LRel.append {ρ : Ren} {a a' b b' : List Value} (h : LRel ρ a a') (h' : LRel ρ b b') : LRel ρ (a ++ b) (a' ++ b') := by
  induction a generalizing a' with
  | nil => cases h; exact h'
  | cons v l ih => cases h with | cons _ v' _ l' e h => exact .cons _ _ _ _ e (ih h)
theorem LRel.get {ρ : Ren} {l l' : List Value} (h : LRel ρ l l') (i : Nat) (v : Value) (e : l[i]? = some v) : ∃ v', l'[i]? = some v' ∧ VRel ρ v v' := by
  induction l generalizing l' i with
  | nil => simp at e
  | cons x l ih =>
    cases h with
    | cons _ x' _ l' hx h =>
      cases i with
      | zero => simp at e; subst e; exact ⟨x', rfl, hx⟩
      | succ i => simp at e; simpa using ih h i e
theorem LRel.get' {ρ : Ren} {l l' : List Value} (h : LRel ρ l l') (i : Nat) (v' : Value) (e : l'[i]? = some v') : ∃ v, l[i]? = some v ∧ VRel ρ v v' := by
  induction l generalizing l' i with
  | nil => cases h; simp at e
  | cons x l ih =>
    cases h with
    | cons _ x' _ l' hx h =>
      cases i with
      | zero => simp at e; subst e; exact ⟨x, rfl, hx⟩
      | succ i => simp at e; simpa using ih h i e
theorem LRel.of_get {ρ : Ren} {l l' : List Value} (hl : l'.length = l.length) (h : ∀ (i : Nat) (v v' : Value), l[i]? = some v → l'[i]? = some v' → VRel ρ v v') : LRel ρ l l' := by
  induction l generalizing l' with
  | nil => cases l' with | nil => exact .nil | cons _ _ => simp at hl
  | cons x l ih =>
    cases l' with
    | nil => simp at hl
    | cons x' l' => exact .cons _ _ _ _ (h 0 x x' rfl rfl) (ih (by simpa using hl) fun i v v' e e' => h (i + 1) v v' (by simpa using e) (by simpa using e'))

/-- A value without addresses stands for itself. -/
theorem andB_eq {a b : Bool} : andB a b = true ↔ a = true ∧ b = true := by cases a <;> simp [andB]
theorem noneB_eq {α : Type} {a : Option α} : noneB a = true ↔ a = none := by cases a <;> simp [noneB]
theorem zeroB_eq {n : Nat} : zeroB n = true ↔ n = 0 := by cases n <;> simp [zeroB]
theorem nilB_eq {α : Type} {l : List α} : nilB l = true ↔ l = [] := by cases l <;> simp [nilB]
theorem flat1_rel (ρ : Ren) {v : Value} (h : flat1 v = true) : VRel ρ v v := by
  cases v with
  | pointer a => simp only [flat1, noneB_eq] at h; subst h; exact .ptr0
  | slice a l c =>
    simp only [flat1, andB_eq, noneB_eq, zeroB_eq] at h
    obtain ⟨rfl, rfl, rfl⟩ := h; exact .sl0
  | map r => simp only [flat1, noneB_eq] at h; subst h; exact .map0
  | bool _ => constructor
  | int _ _ => constructor
  | float _ _ => constructor
  | complex _ _ _ => constructor
  | string _ => constructor
  | nilFunc => constructor
  | nilIface => constructor
  | chan _ => simp [flat1] at h
  | func _ _ _ => simp [flat1] at h
  | iface _ _ => simp [flat1] at h
  | agg _ => simp [flat1] at h
  | tuple _ => simp [flat1] at h
theorem flatL_rel (ρ : Ren) {l : List Value} (h : flatL l = true) : LRel ρ l l := by
  induction l with
  | nil => exact .nil
  | cons x l ih =>
    simp only [flatL, andB_eq] at h
    exact .cons _ _ _ _ (flat1_rel ρ h.1) (ih h.2)
theorem flat_rel (ρ : Ren) {v : Value} (h : flat v = true) : VRel ρ v v := by
  cases v with
  | agg cs => exact .agg _ _ (flatL_rel ρ h)
  | tuple cs => exact .tuple _ _ (flatL_rel ρ h)
  | func f a b =>
    simp only [flat, andB_eq, nilB_eq] at h
    obtain ⟨h1, h2, h3⟩ := h
    cases f with
    | func f =>
      obtain ⟨a⟩ := a; obtain ⟨b⟩ := b
      simp only at h2 h3; subst h2; subst h3
      exact .fn _ _ _ _ _ .nil .nil
    | _ => simp [isFn] at h1
  | _ => exact flat1_rel ρ h

/-- A function's temporaries. -/
def TRel (ρ : Ren) (t : Tri Value) (nt : Nat) (xs : Array Value) : Prop :=
  xs.size = nt ∧ (∀ i, i < nt → ∃ v', xs[i]? = some v' ∧ VRel ρ ((t.get i).getD undef) v') ∧ ∀ i, nt ≤ i → t.get i = none

def ERel (ρ : Ren) (e e' : MapEntry) : Prop := VRel ρ e.key e'.key ∧ VRel ρ e.val e'.val ∧ e.born = e'.born
inductive ELRel (ρ : Ren) : List MapEntry → List MapEntry → Prop
  | nil : ELRel ρ [] []
  | cons (e e' : MapEntry) (l l' : List MapEntry) : ERel ρ e e' → ELRel ρ l l' → ELRel ρ (e :: l) (e' :: l')

/-- What stands in a name's block. -/
def ObjRel (P : Program) (ρ : Ren) (l : Loc) : AObj → Obj → Prop
  | .row cs n e opn fz, ob => ∃ (c : Array Value) (fr : Nat × Nat), ob = .cells c e fr ∧
      (∀ i, i < n → ∃ v v', cs.get i = some v ∧ c[l.o + i]? = some v' ∧ VRel ρ v v') ∧
      (∀ i, i < c.size → ¬ (fr.1 ≤ i ∧ i < fr.2)) ∧ (fz = false → fr = (0, 0)) ∧
      (opn = false → l.o = 0 ∧ c.size = n) ∧
      (opn = true → c.size = l.o + l.n * l.z ∧ n ≤ l.n * l.z ∧ sizeT P e = some l.z)
  | .map es clock, ob => ∃ es' : List MapEntry, ob = .map ⟨es'⟩ clock ∧ ELRel ρ es es'
  | .iter s pos, ob => l.o = 0 ∧ ob = .stringIter s pos
  | .dfd b, ob => ob = .deferred (if b then some [] else none)
  | .loop st p t nt ps asg bo dn, ob => ∃ (fn : FuncId) (xs : Array Value) (ld : Loc), ob = .loop { state := st, pending := p, fn := fn, tmps := xs, params := ⟨ps⟩, assign := asg, body := bo, defers := ld.b } ∧
      TRel ρ t nt xs ∧ ρ dn = some ld

abbrev Hp := Nat → Option AObj
structure Rel (P : Program) (ρ : Ren) (h : Hp) (w : World) : Prop where
  obj : ∀ a o, h a = some o → ∃ l ob, ρ a = some l ∧ w.heap[l.b]? = some ob ∧ ObjRel P ρ l o ob
  inj : ∀ a b o o' l l', h a = some o → h b = some o' → ρ a = some l → ρ b = some l' → a ≠ b → l.b ≠ l'.b
  glob : ∀ g, g < P.globals.size → ρ g = some ⟨g, 0, 0, 0⟩

theorem ELRel.length {ρ : Ren} {l l' : List MapEntry} (h : ELRel ρ l l') : l'.length = l.length := by
  induction h with
  | nil => rfl
  | cons _ _ _ _ _ _ ih => simp [ih]
theorem TRel.mono {ρ ρ' : Ren} (h : ρ.le ρ') {t : Tri Value} {nt : Nat} {xs : Array Value} (ht : TRel ρ t nt xs) : TRel ρ' t nt xs :=
  ⟨ht.1, fun i hi => let ⟨v', e, r⟩ := ht.2.1 i hi; ⟨v', e, r.mono h⟩, ht.2.2⟩
theorem ELRel.mono {ρ ρ' : Ren} (h : ρ.le ρ') {l l' : List MapEntry} (he : ELRel ρ l l') : ELRel ρ' l l' := by
  induction he with
  | nil => exact .nil
  | cons e e' l l' hd _ ih => exact .cons _ _ _ _ ⟨hd.1.mono h, hd.2.1.mono h, hd.2.2⟩ ih
theorem ObjRel.mono {P : Program} {ρ ρ' : Ren} (h : ρ.le ρ') {l : Loc} {o : AObj} {ob : Obj} (ho : ObjRel P ρ l o ob) : ObjRel P ρ' l o ob := by
  cases o with
  | row cs n e opn fz =>
    obtain ⟨c, fr, e1, e2, e3⟩ := ho
    exact ⟨c, fr, e1, fun i hi => let ⟨v, v', a, b, r⟩ := e2 i hi; ⟨v, v', a, b, r.mono h⟩, e3⟩
  | map es clock => obtain ⟨es', e1, e2⟩ := ho; exact ⟨es', e1, e2.mono h⟩
  | iter s pos => exact ho
  | dfd b => exact ho
  | loop st p t nt ps asg bo dn => obtain ⟨fn, xs, ld, e1, e2, e3⟩ := ho; exact ⟨fn, xs, ld, e1, e2.mono h, h _ _ e3⟩
theorem Rel.sub {P : Program} {ρ : Ren} {h h' : Hp} {w : World} (hr : Rel P ρ h w) (hs : ∀ a o, h' a = some o → h a = some o) : Rel P ρ h' w :=
  ⟨fun a o e => hr.obj a o (hs a o e), fun a b o o' l l' e e' => hr.inj a b o o' l l' (hs _ _ e) (hs _ _ e'), hr.glob⟩

end Go.Ev

/- The evaluator's numbers, lists and texts are the model's. -/
namespace Go.Ev

theorem ltI_eq (x y : Int) : ltI x y = decide (x < y) := by
  cases x <;> cases y <;> rename_i a b <;> simp only [ltI, Int.ofNat_eq_natCast, Int.negSucc_eq]
  · rw [Bool.eq_iff_iff]; simp [Nat.ble_eq]; omega
  · symm; rw [decide_eq_false_iff_not]; omega
  · symm; rw [decide_eq_true_iff]; omega
  · rw [Bool.eq_iff_iff]; simp [Nat.ble_eq]; omega
theorem eqI_eq (x y : Int) : eqI x y = decide (x = y) := by
  cases x <;> cases y <;> rename_i a b <;> simp only [eqI, Int.ofNat_eq_natCast, Int.negSucc_eq]
  · rw [Bool.eq_iff_iff]; simp [Nat.beq_eq]; omega
  · symm; rw [decide_eq_false_iff_not]; omega
  · symm; rw [decide_eq_false_iff_not]; omega
  · rw [Bool.eq_iff_iff]; simp [Nat.beq_eq]; omega
theorem capN_bits (k : IntKind) : (capN k : Int) = if k.signed then 2 ^ (k.bits - 1) else 2 ^ k.bits := by
  cases k <;> simp [capN, IntKind.signed, IntKind.bits]
theorem wrap_id (k : IntKind) (n : Int) (h : if k.signed then -(2 ^ (k.bits - 1) : Int) ≤ n ∧ n < 2 ^ (k.bits - 1) else 0 ≤ n ∧ n < 2 ^ k.bits) : k.wrap n = n := by
  cases k <;> simp [IntKind.wrap, IntKind.signed, IntKind.bits] at h ⊢ <;> (try split) <;> omega
theorem wrapF_eq (k : IntKind) (n : Int) : wrapF k n = k.wrap n := by
  cases n with
  | ofNat a =>
    simp only [wrapF]
    split
    · rename_i h
      symm
      apply wrap_id
      have h' : a + 1 ≤ capN k := Nat.le_of_ble_eq_true h
      have hc := capN_bits k
      cases k <;> simp only [IntKind.signed, IntKind.bits, capN] at * <;> simp <;> omega
    · rfl
  | negSucc a =>
    simp only [wrapF]
    split
    · rename_i hs h
      symm
      apply wrap_id
      have h' : a + 1 ≤ capN k := Nat.le_of_ble_eq_true h
      cases k <;> simp only [IntKind.signed, IntKind.bits, capN] at * <;> simp at * <;> omega
    · rfl
theorem eqK_eq {a b : IntKind} : eqK a b = true ↔ a = b := by
  cases a <;> cases b <;> simp [eqK, IntKind.ctorIdx]
theorem notB_eq (b : Bool) : notB b = !b := by cases b <;> rfl
theorem eqBytes_eq (a b : List UInt8) : eqBytes a b = (a == b) := by
  induction a generalizing b with
  | nil => cases b <;> rfl
  | cons x a ih =>
    cases b with
    | nil => rfl
    | cons y b =>
      simp only [eqBytes]
      by_cases h : x = y
      · subst h
        have : Nat.beq x.toNat x.toNat = true := by rw [Nat.beq_eq]
        rw [this]; simp [ih]
      · have : Nat.beq x.toNat y.toNat = false := by
          rw [← Bool.not_eq_true, Nat.beq_eq]; intro e; exact h (UInt8.toNat_inj.1 e)
        rw [this]; simp [h]
theorem nth_eq {α : Type} (l : List α) (n : Nat) : nth l n = l[n]? := by
  induction l generalizing n with
  | nil => simp [nth]
  | cons a l ih => cases n with
    | zero => simp [nth]
    | succ n => simp [nth, ih]
theorem dropL_eq {α : Type} : ∀ (n : Nat) (l r : List α), dropL n l = some r → r = l.drop n ∧ n ≤ l.length := by
  intro n
  induction n with
  | zero => intro l r h; simp [dropL] at h; subst h; simp
  | succ n ih =>
    intro l r h
    cases l with
    | nil => simp [dropL] at h
    | cons a l => simp only [dropL] at h; obtain ⟨h1, h2⟩ := ih l r h; simp [h1]; omega
theorem takeL_eq {α : Type} : ∀ (n : Nat) (l r : List α), takeL n l = some r → r = l.take n ∧ n ≤ l.length := by
  intro n
  induction n with
  | zero => intro l r h; simp [takeL] at h; subst h; simp
  | succ n ih =>
    intro l r h
    cases l with
    | nil => simp [takeL] at h
    | cons a l =>
      simp only [takeL] at h
      cases hr : takeL n l with
      | none => rw [hr] at h; simp at h
      | some q =>
        rw [hr] at h; simp at h; subst h
        obtain ⟨h1, h2⟩ := ih l q hr
        simp [h1]; omega
theorem overL_eq {α : Type} : ∀ (l xs : List α) (i : Nat) (r : List α), overL i xs l = some r → i + xs.length ≤ l.length ∨ xs = [] := by
  intro l
  induction l with
  | nil =>
    intro xs i r h
    cases xs with
    | nil => exact .inr rfl
    | cons x xs => cases i <;> simp [overL] at h
  | cons a l ih =>
    intro xs i r h
    cases xs with
    | nil => exact .inr rfl
    | cons x xs =>
      cases i with
      | zero =>
        simp only [overL] at h
        cases hr : overL 0 xs l with
        | none => rw [hr] at h; simp at h
        | some q =>
          left
          rcases ih xs 0 q hr with h1 | h1
          · simp; omega
          · simp [h1]
      | succ i =>
        simp only [overL] at h
        cases hr : overL i (x :: xs) l with
        | none => rw [hr] at h; simp at h
        | some q =>
          left
          rcases ih (x :: xs) i q hr with h1 | h1
          · simp at h1 ⊢; omega
          · simp at h1
theorem overL_get {α : Type} : ∀ (l xs : List α) (i : Nat) (r : List α), overL i xs l = some r →
    r.length = l.length ∧ ∀ j, r[j]? = if i ≤ j ∧ j < i + xs.length then xs[j - i]? else l[j]? := by
  intro l
  induction l with
  | nil =>
    intro xs i r h
    cases xs with
    | nil => cases i <;> (simp [overL] at h; subst h; simp) <;> omega
    | cons x xs => cases i <;> simp [overL] at h
  | cons a l ih =>
    intro xs i r h
    cases xs with
    | nil =>
      have : r = a :: l := by cases i <;> (simp [overL] at h; exact h.symm)
      subst this
      refine ⟨rfl, fun j => ?_⟩
      rw [if_neg (by simp)]
    | cons x xs =>
      cases i with
      | zero =>
        simp only [overL] at h
        cases hr : overL 0 xs l with
        | none => rw [hr] at h; simp at h
        | some q =>
          rw [hr] at h; simp at h; subst h
          obtain ⟨h1, h2⟩ := ih xs 0 q hr
          refine ⟨by simp [h1], fun j => ?_⟩
          cases j with
          | zero => simp
          | succ j => simp [h2 j]
      | succ i =>
        simp only [overL] at h
        cases hr : overL i (x :: xs) l with
        | none => rw [hr] at h; simp at h
        | some q =>
          rw [hr] at h; simp at h; subst h
          obtain ⟨h1, h2⟩ := ih (x :: xs) i q hr
          refine ⟨by simp [h1], fun j => ?_⟩
          cases j with
          | zero => simp
          | succ j =>
            simp only [List.getElem?_cons_succ, h2 j]
            by_cases hc : i ≤ j ∧ j < i + (x :: xs).length
            · rw [if_pos hc, if_pos (by simp at hc ⊢; omega)]
              congr 1
              omega
            · rw [if_neg hc, if_neg (by simp at hc ⊢; omega)]
theorem repL_length {α : Type} (n : Nat) (l : List α) : (repL n l).length = n * l.length := by
  induction n with
  | zero => simp [repL]
  | succ n ih => simp [repL, ih, Nat.succ_mul]; omega
theorem repL_get {α : Type} (n : Nat) (l : List α) (i : Nat) (h : i < n * l.length) : (repL n l)[i]? = l[i % l.length]? := by
  induction n generalizing i with
  | zero => simp at h
  | succ n ih =>
    simp only [repL]
    by_cases hi : i < l.length
    · rw [List.getElem?_append_left hi, Nat.mod_eq_of_lt hi]
    · have hpos : 0 < l.length := by
        rcases Nat.eq_zero_or_pos l.length with h0 | h0
        · rw [h0] at h; simp at h
        · exact h0
      rw [List.getElem?_append_right (by omega), ih (i - l.length) (by rw [Nat.succ_mul] at h; omega)]
      congr 1
      rw [Nat.mod_eq_sub_mod (by omega : i ≥ l.length)]

theorem fillT_get (l : List Value) : ∀ (i : Nat) (t : Tri Value) (j : Nat), (fillT l i t).get j = if i ≤ j ∧ j < i + l.length then l[j - i]? else t.get j := by
  induction l with
  | nil => intro i t j; simp only [fillT]; rw [if_neg (by simp)]
  | cons v l ih =>
    intro i t j
    simp only [fillT]
    rw [show Nat.add i 1 = i + 1 from rfl, ih (i + 1) (t.set i v) j, Tri.get_set]
    by_cases h : i + 1 ≤ j ∧ j < i + 1 + l.length
    · rw [if_pos h, if_pos (by simp; omega)]
      have : j - i = (j - (i + 1)) + 1 := by omega
      rw [this]; simp
    · rw [if_neg h]
      by_cases e : j = i
      · subst e; simp
      · rw [if_neg e, if_neg (by simp; omega)]
theorem hdO_eq {α : Type} (l : List α) : hdO l = l[0]? := by cases l <;> rfl
theorem tlL_eq {α : Type} (l : List α) : tlL l = l.drop 1 := by cases l <;> rfl
theorem Tri.get_same {α : Type} (t u : Tri α) (hm : t.m = u.m) (hb : t.b = u.b) (hr : t.r = u.r) {j : Nat} (h : ¬ j < 8) : t.get j = u.get j := by
  by_cases c : j < 512
  · rw [Tri.get_m _ h c, Tri.get_m _ h c, hm]
  · by_cases d : j < 262144
    · rw [Tri.get_b _ c d, Tri.get_b _ c d, hb]
    · rw [Tri.get_r _ d, Tri.get_r _ d, hr]
theorem rowOf_get (l : List Value) (j : Nat) : (rowOf l).get j = l[j]? := by
  by_cases h8 : j < 8
  · rw [Tri.get_z _ h8]
    match j, h8 with
    | 0, _ => exact hdO_eq _
    | 1, _ => show hdO (tlL l) = _; simp only [hdO_eq, tlL_eq, List.getElem?_drop, List.drop_drop]
    | 2, _ => show hdO (tlL (tlL l)) = _; simp only [hdO_eq, tlL_eq, List.getElem?_drop, List.drop_drop]
    | 3, _ => show hdO (tlL (tlL (tlL l))) = _; simp only [hdO_eq, tlL_eq, List.getElem?_drop, List.drop_drop]
    | 4, _ => show hdO (tlL (tlL (tlL (tlL l)))) = _; simp only [hdO_eq, tlL_eq, List.getElem?_drop, List.drop_drop]
    | 5, _ => show hdO (tlL (tlL (tlL (tlL (tlL l))))) = _; simp only [hdO_eq, tlL_eq, List.getElem?_drop, List.drop_drop]
    | 6, _ => show hdO (tlL (tlL (tlL (tlL (tlL (tlL l)))))) = _; simp only [hdO_eq, tlL_eq, List.getElem?_drop, List.drop_drop]
    | 7, _ => show hdO (tlL (tlL (tlL (tlL (tlL (tlL (tlL l))))))) = _; simp only [hdO_eq, tlL_eq, List.getElem?_drop, List.drop_drop]
  · rw [Tri.get_same (rowOf l) (fillT (tlL (tlL (tlL (tlL (tlL (tlL (tlL (tlL l)))))))) 8 .leaf) rfl rfl rfl h8, fillT_get]
    simp only [tlL_eq, List.drop_drop]
    by_cases h : j < l.length
    · rw [if_pos (by simp; omega)]
      rw [List.getElem?_drop]
      congr 1; omega
    · rw [if_neg (by simp; omega), Tri.get_leaf]; symm; simpa using h
theorem setCells_get (l : List Value) : ∀ (i : Nat) (t : Tri Value) (j : Nat), (setCells l i t).get j = if i ≤ j ∧ j < i + l.length then l[j - i]? else t.get j := by
  induction l with
  | nil => intro i t j; simp only [setCells]; rw [if_neg (by simp)]
  | cons v l ih =>
    intro i t j
    simp only [setCells]
    rw [show Nat.add i 1 = i + 1 from rfl, ih (i + 1) (t.set i v) j, Tri.get_set]
    by_cases h : i + 1 ≤ j ∧ j < i + 1 + l.length
    · rw [if_pos h, if_pos (by simp; omega)]
      have : j - i = (j - (i + 1)) + 1 := by omega
      rw [this]; simp
    · rw [if_neg h]
      by_cases e : j = i
      · subst e; simp
      · rw [if_neg e, if_neg (by simp; omega)]
theorem cellsFrom_get (t : Tri Value) : ∀ (n i : Nat) (l : List Value), cellsFrom t n i = some l → l.length = n ∧ ∀ j, j < n → t.get (i + j) = l[j]? := by
  intro n
  induction n with
  | zero => intro i l h; simp [cellsFrom] at h; subst h; simp
  | succ n ih =>
    intro i l h
    simp only [cellsFrom] at h
    cases hv : t.get i with
    | none => rw [hv] at h; simp at h
    | some v =>
      rw [hv] at h
      cases hr : cellsFrom t n (Nat.add i 1) with
      | none => rw [hr] at h; simp at h
      | some r =>
        rw [hr] at h; simp at h; subst h
        obtain ⟨h1, h2⟩ := ih _ _ hr
        refine ⟨by simp [h1], fun j hj => ?_⟩
        cases j with
        | zero => simpa using hv
        | succ j =>
          have := h2 j (by omega)
          rw [show Nat.add i 1 = i + 1 from rfl] at this
          simp only [List.getElem?_cons_succ]
          rw [← this]; congr 1; omega

end Go.Ev
