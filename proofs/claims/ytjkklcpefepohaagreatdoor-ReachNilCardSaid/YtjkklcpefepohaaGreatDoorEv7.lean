/- The evaluator's twin for the kernel: code as closures. Definitions. -/
import Derived.Test.YtjkklcpefepohaaGreatDoorEv1
import Derived.Test.YtjkklcpefepohaaGreatDoorEv6
set_option linter.unusedVariables false
set_option linter.unusedSimpArgs false
namespace Go.Ev
noncomputable section

abbrev R := Option COut
abbrev KN := Tri Value → St → R
structure Env where
  call : CallF
  pan : Value → Tri Value → St → R
  ret : KN
  ex : Nat → KN
  goto : Nat → KN
abbrev OF := Env → Rd → Tri Value → St → KN → R
abbrev VF := Tri Value → Value
abbrev DF := Tri Value → Value → Tri Value

/- ---- what a value is ---- -/
def onInt (v : Value) (k : IntKind → Int → R) : R :=
  @Value.rec (fun _ => R) (fun _ => Unit) (fun _ => Unit) (fun _ => none) k (fun _ _ => none) (fun _ _ _ => none) (fun _ => none) (fun _ => none) (fun _ _ _ => none) (fun _ => none) (fun _ => none) (fun _ _ _ _ _ => none) none (fun _ _ _ => none) none (fun _ _ => none) (fun _ _ => none) (fun _ _ => ()) () (fun _ _ _ _ => ()) v
def onBool (v : Value) (a b : R) : R :=
  @Value.rec (fun _ => R) (fun _ => Unit) (fun _ => Unit) (@Bool.rec (fun _ => R) b a) (fun _ _ => none) (fun _ _ => none) (fun _ _ _ => none) (fun _ => none) (fun _ => none) (fun _ _ _ => none) (fun _ => none) (fun _ => none) (fun _ _ _ _ _ => none) none (fun _ _ _ => none) none (fun _ _ => none) (fun _ _ => none) (fun _ _ => ()) () (fun _ _ _ _ => ()) v
def onBool3 (v : Value) (a b d : R) : R :=
  @Value.rec (fun _ => R) (fun _ => Unit) (fun _ => Unit) (@Bool.rec (fun _ => R) b a) (fun _ _ => d) (fun _ _ => d) (fun _ _ _ => d) (fun _ => d) (fun _ => d) (fun _ _ _ => d) (fun _ => d) (fun _ => d) (fun _ _ _ _ _ => d) d (fun _ _ _ => d) d (fun _ _ => d) (fun _ _ => d) (fun _ _ => ()) () (fun _ _ _ _ => ()) v
def onStr (v : Value) (k : ByteArray → R) : R :=
  @Value.rec (fun _ => R) (fun _ => Unit) (fun _ => Unit) (fun _ => none) (fun _ _ => none) (fun _ _ => none) (fun _ _ _ => none) k (fun _ => none) (fun _ _ _ => none) (fun _ => none) (fun _ => none) (fun _ _ _ _ _ => none) none (fun _ _ _ => none) none (fun _ _ => none) (fun _ _ => none) (fun _ _ => ()) () (fun _ _ _ _ => ()) v
def onPtr (v : Value) (k : Option Addr → R) : R :=
  @Value.rec (fun _ => R) (fun _ => Unit) (fun _ => Unit) (fun _ => none) (fun _ _ => none) (fun _ _ => none) (fun _ _ _ => none) (fun _ => none) k (fun _ _ _ => none) (fun _ => none) (fun _ => none) (fun _ _ _ _ _ => none) none (fun _ _ _ => none) none (fun _ _ => none) (fun _ _ => none) (fun _ _ => ()) () (fun _ _ _ _ => ()) v
def onSl (v : Value) (k : Option Addr → Nat → Nat → R) : R :=
  @Value.rec (fun _ => R) (fun _ => Unit) (fun _ => Unit) (fun _ => none) (fun _ _ => none) (fun _ _ => none) (fun _ _ _ => none) (fun _ => none) (fun _ => none) k (fun _ => none) (fun _ => none) (fun _ _ _ _ _ => none) none (fun _ _ _ => none) none (fun _ _ => none) (fun _ _ => none) (fun _ _ => ()) () (fun _ _ _ _ => ()) v
def onTup (v : Value) (k : Array Value → R) : R :=
  @Value.rec (fun _ => R) (fun _ => Unit) (fun _ => Unit) (fun _ => none) (fun _ _ => none) (fun _ _ => none) (fun _ _ _ => none) (fun _ => none) (fun _ => none) (fun _ _ _ => none) (fun _ => none) (fun _ => none) (fun _ _ _ _ _ => none) none (fun _ _ _ => none) none (fun _ _ => none) (fun vs _ => k vs) (fun _ _ => ()) () (fun _ _ _ _ => ()) v
/-- A value of one cell. -/
def oneV (v : Value) (k : R) : R :=
  @Value.rec (fun _ => R) (fun _ => Unit) (fun _ => Unit) (fun _ => k) (fun _ _ => k) (fun _ _ => k) (fun _ _ _ => k) (fun _ => k) (fun _ => k) (fun _ _ _ => k) (fun _ => k) (fun _ => k) (fun _ _ _ _ _ => k) k (fun _ _ _ => k) k (fun _ _ => none) (fun _ _ => none) (fun _ _ => ()) () (fun _ _ _ _ => ()) v
def ifB (b : Bool) (x y : R) : R := @Bool.rec (fun _ => R) y x b
def onSome {α : Type} (o : Option α) (k : α → R) : R := @Option.rec α (fun _ => R) none k o
/-- An address of a plain cell. -/
def onAddr (o : Option Addr) (k : Nat → Nat → R) : R :=
  @Option.rec Addr (fun _ => R) none (@Addr.rec (fun _ => R) fun b o sp => @Option.rec Nat (fun _ => R) (k b o) (fun _ => none) sp) o
def onRow (o : Option AObj) (k : Tri Value → Nat → TypeId → Bool → Bool → R) : R :=
  @Option.rec AObj (fun _ => R) none (@AObj.rec (fun _ => R) k (fun _ _ => none) (fun _ _ => none) (fun _ => none) (fun _ _ _ _ _ _ _ _ => none)) o
def onNat (n : Int) (k : Nat → R) : R := @Int.rec (fun _ => R) k (fun _ => none) n
/-- A state with an object more, or another one. -/
def putK (s : St) (a : Nat) (o : AObj) (k : St → R) : R := @St.rec (fun _ => R) (fun h n => forceN (Nat.add n 1) fun m => k ⟨h.set a (n, o), m⟩) s
def newK (s : St) (o : AObj) (k : Nat → St → R) : R := @St.rec (fun _ => R) (fun h n => forceN (Nat.add n 1) fun m => k n ⟨h.set n (n, o), m⟩) s

/- ---- operands, and where a value goes ---- -/
inductive OC where
  | ok (f : VF)
  | bad
def cX (P : Program) (x : Operand) : OC := match x with
  | .tmp i => match @acc Value i with | .mk f => .ok fun t => @Option.rec Value (fun _ => Value) undef (fun v => v) (f t)
  | .const v => match flat v with | true => .ok fun _ => v | false => .bad
  | .global g => match Nat.ble (Nat.succ g) P.globals.size with | true => .ok fun _ => .pointer (some ⟨g, 0, none⟩) | false => .bad
  | .func f => .ok fun _ => .func (.func f) #[] #[]
inductive DC where
  | ok (f : DF)
  | bad
def cD (nt : Nat) (d : Option Tmp) : DC := match d with
  | none => .ok fun t _ => t
  | some d => match Nat.ble (Nat.succ d) nt with
    | true => match @upd Value d with | .mk f => .ok fun t v => f t (some v)
    | false => .bad
inductive OK where
  | mk (f : OF)

/-- What an operation comes to. -/
inductive SR where
  | go (t : Tri Value) (s : St)
  | boom (v : Value) (t : Tri Value) (s : St)
  | no
def SR.cont (e : Env) (k : KN) : SR → R
  | .go t s => k t s
  | .boom v t s => e.pan v t s
  | .no => none
def stepR (P : Program) (call : CallF) (nt : Nat) (ops : List Oper) (rd : Rd) (t : Tri Value) (s : St) (o : Oper) : SR :=
  match wantF ops t o with
  | false => match putT nt t o.dst undef with | some t' => .go t' s | none => .no
  | true => match isEff o with
    | false => match pureOp P (opv P t) rd o with
      | some po => match poDo s po with
        | (v, s') => match putT nt t o.dst v with | some t' => .go t' s' | none => .no
      | none => .no
    | true => match effOp P call (opv P t) s o with
      | some ⟨.ret v, s'⟩ => match putT nt t o.dst v with | some t' => .go t' s' | none => .no
      | some ⟨.panic v, s'⟩ => .boom v t s'
      | none => .no
def genOp (P : Program) (nt : Nat) (ops : List Oper) (o : Oper) : OK := .mk fun e rd t s k => SR.cont e k (stepR P e.call nt ops rd t s o)
/-- An operation of no guard that turns nothing. -/
def genPure (P : Program) (o : Oper) (fd : DF) : OK := .mk fun _ rd t s k => onSome (pureOp P (opv P t) rd o) fun po =>
  @PO.rec (fun _ => R) (fun v => k (fd t v) s) (fun o v => newK s o fun n s' => k (fd t (v.at n)) s') po
def genEff (P : Program) (o : Oper) (fd : DF) : OK := .mk fun e _ t s k => onSome (effOp P e.call (opv P t) s o) fun c =>
  @COut.rec (fun _ => R) (fun en s' => @En.rec (fun _ => R) (fun v => k (fd t v) s') (fun v => e.pan v t s') en) c

def w1 (g : OK) (x : OC) (k : VF → OF) : OK := match x with
  | .ok f => .mk (k f)
  | .bad => g
def w2 (g : OK) (x y : OC) (k : VF → VF → OF) : OK := match x, y with
  | .ok f, .ok h => .mk (k f h)
  | _, _ => g

def kMove (g : OK) (x : OC) (fd : DF) : OK := w1 g x fun fx _ _ t s k => k (fd t (fx t)) s
def kLoad1 (g : OK) (x : OC) (fd : DF) : OK := w1 g x fun fx _ rd t s k => onPtr (fx t) fun a => onAddr a fun b o => onRow (rd b) fun cs n _ _ _ =>
  ifB (Nat.ble (Nat.succ o) n) (onSome (cs.get o) fun v => k (fd t v) s) none
def kLoadN (m : Nat) (g : OK) (x : OC) (fd : DF) : OK := w1 g x fun fx _ rd t s k => onPtr (fx t) fun a => onAddr a fun b o => onRow (rd b) fun cs n _ _ _ =>
  ifB (Nat.ble (Nat.add o m) n) (onSome (cellsFrom cs m o) fun l => k (fd t (.agg ⟨l⟩)) s) none
def kStore1 (g : OK) (x y : OC) (fd : DF) : OK := w2 g x y fun fx fy _ _ t s k => onPtr (fx t) fun a => onAddr a fun b o => oneV (fy t) (onRow (rdS s b) fun cs n e opn fz =>
  ifB (Nat.ble (Nat.succ o) n) (putK s b (.row (cs.set o (fy t)) n e opn fz) fun s' => k (fd t undef) s') none)
def kFieldAddr (off : Nat) (g : OK) (x : OC) (fd : DF) : OK := w1 g x fun fx _ _ t s k => onPtr (fx t) fun a => onAddr a fun b o =>
  forceN (Nat.add o off) fun o' => k (fd t (.pointer (some ⟨b, o', none⟩))) s
def kIndexAddrS (sz : Nat) (g : OK) (x i : OC) (fd : DF) : OK := w2 g x i fun fx fi _ _ t s k => onSl (fx t) fun a n _ => onAddr a fun b o => onInt (fi t) fun _ j => onNat j fun j =>
  ifB (Nat.ble (Nat.succ j) n) (forceN (Nat.add o (Nat.mul j sz)) fun o' => k (fd t (.pointer (some ⟨b, o', none⟩))) s) none
/-- A text's bytes, by their places. -/
def fillB : List UInt8 → Nat → Tri UInt8 → Tri UInt8
  | [], _, t => t
  | v :: l, i, t => fillB l (Nat.add i 1) (t.set i v)
def byteT (l : List UInt8) : Tri UInt8 := fillB l 0 .leaf
def kIndexStr (g : OK) (x i : OC) (fd : DF) : OK := w2 g x i fun fx fi _ _ t s k => onStr (fx t) fun b => onInt (fi t) fun _ j => onNat j fun j =>
  onSome ((byteT b.data.toList).get j) fun c => forceN c.toNat fun c => k (fd t (.int .u8 (.ofNat c))) s
def kLenStr (g : OK) (x : OC) (fd : DF) : OK := w1 g x fun fx _ _ t s k => onStr (fx t) fun b => forceN (List.length b.data.toList) fun n => k (fd t (.int .i64 (.ofNat n))) s
def kLenSl (g : OK) (x : OC) (fd : DF) : OK := w1 g x fun fx _ _ t s k => onSl (fx t) fun _ n _ => k (fd t (.int .i64 (.ofNat n))) s
/-- A pointer, else as g has it. -/
def onPtrD (v : Value) (d : R) (k : Option Addr → R) : R :=
  @Value.rec (fun _ => R) (fun _ => Unit) (fun _ => Unit) (fun _ => d) (fun _ _ => d) (fun _ _ => d) (fun _ _ _ => d) (fun _ => d) k (fun _ _ _ => d) (fun _ => d) (fun _ => d) (fun _ _ _ _ _ => d) d (fun _ _ _ => d) d (fun _ _ => d) (fun _ _ => d) (fun _ _ => ()) () (fun _ _ _ _ => ()) v
def kNilCheck (g : OK) (x : OC) (fd : DF) : OK := match g with
  | .mk gf => w1 (.mk gf) x fun fx e rd t s k => onPtrD (fx t) (gf e rd t s k) fun a => onSome a fun a => k (fd t (.pointer (some a))) s
def kExtract (i : Nat) (g : OK) (x : OC) (fd : DF) : OK := w1 g x fun fx _ _ t s k => onTup (fx t) fun vs => onSome (nth vs.toList i) fun v => k (fd t v) s
def forceI (n : Int) (k : Int → R) : R := @Int.rec (fun _ => R) (fun n => forceN n fun n => k (.ofNat n)) (fun n => forceN n fun n => k (.negSucc n)) n
def kArith (op : Int → Int → Int) (g : OK) (x y : OC) (fd : DF) : OK := w2 g x y fun fx fy _ _ t s k => onInt (fx t) fun ka m => onInt (fy t) fun kb n => ifB (eqK ka kb)
  (forceI (wrapF ka (op m n)) fun r => k (fd t (.int ka r)) s) none
def kCmp (c : Int → Int → Bool) (g : OK) (x y : OC) (fd : DF) : OK := w2 g x y fun fx fy _ _ t s k => onInt (fx t) fun ka m => onInt (fy t) fun kb n => ifB (eqK ka kb)
  (ifB (c m n) (k (fd t (.bool true)) s) (k (fd t (.bool false)) s)) none
def neI (a b : Int) : Bool := notB (eqI a b)
def gtI (a b : Int) : Bool := ltI b a
def leI (a b : Int) : Bool := notB (ltI b a)
def geI (a b : Int) : Bool := notB (ltI a b)
def kConv (kd : IntKind) (g : OK) (x : OC) (fd : DF) : OK := w1 g x fun fx _ _ t s k => onInt (fx t) fun _ n => forceI (wrapF kd n) fun r => k (fd t (.int kd r)) s
def kNot (g : OK) (x : OC) (fd : DF) : OK := w1 g x fun fx _ _ t s k => onBool (fx t) (k (fd t (.bool false)) s) (k (fd t (.bool true)) s)
def kNew (g : OK) (z : Value) (ty : TypeId) (fd : DF) : OK := .mk fun _ _ t s k => newK s (.row (rowOf (cellsV z)) (List.length (cellsV z)) ty false false) fun n s' => k (fd t (.pointer (some ⟨n, 0, none⟩))) s'
def kBox (ty : TypeId) (g : OK) (x : OC) (fd : DF) : OK := w1 g x fun fx _ _ t s k => newK s (.row (rowOf (cellsV (fx t))) (List.length (cellsV (fx t))) ty false false) fun n s' => k (fd t (.pointer (some ⟨n, 0, none⟩))) s'
def kPick (g : OK) (c a b : OC) (fd : DF) : OK := match c, a, b with
  | .ok fc, .ok fa, .ok fb => .mk fun _ _ t s k => onBool (fc t) (k (fd t (fa t)) s) (k (fd t (fb t)) s)
  | _, _, _ => g
def onAgg (v : Value) (k : Array Value → R) : R :=
  @Value.rec (fun _ => R) (fun _ => Unit) (fun _ => Unit) (fun _ => none) (fun _ _ => none) (fun _ _ => none) (fun _ _ _ => none) (fun _ => none) (fun _ => none) (fun _ _ _ => none) (fun _ => none) (fun _ => none) (fun _ _ _ _ _ => none) none (fun _ _ _ => none) none (fun cs _ => k cs) (fun _ _ => none) (fun _ _ => ()) () (fun _ _ _ _ => ()) v
def onIter (o : Option AObj) (k : ByteArray → Nat → R) : R :=
  @Option.rec AObj (fun _ => R) none (@AObj.rec (fun _ => R) (fun _ _ _ _ _ => none) (fun _ _ => none) k (fun _ => none) (fun _ _ _ _ _ _ _ _ => none)) o
def kStoreN (n : Nat) (g : OK) (x y : OC) (fd : DF) : OK := w2 g x y fun fx fy _ _ t s k => onPtr (fx t) fun a => onAddr a fun b o => onAgg (fy t) fun vs => ifB (Nat.beq (List.length vs.toList) n) (ifB (oneL vs.toList)
  (onRow (rdS s b) fun cs m e opn fz => ifB (Nat.ble (Nat.add o n) m) (putK s b (.row (setCells vs.toList o cs) m e opn fz) fun s' => k (fd t undef) s') none) none) none
def kNext (g : OK) (x : OC) (fd : DF) : OK := w1 g x fun fx _ _ t s k => onPtr (fx t) fun a => onAddr a fun b o => ifB (Nat.beq o 0) (onIter (rdS s b) fun bs pos =>
  ifB (Nat.ble (Nat.succ pos) (List.length bs.data.toList)) (onSome ((byteT bs.data.toList).get pos) fun c => ifB (Nat.ble (Nat.succ c.toNat) 128)
    (forceN (Nat.add pos 1) fun p' => forceN c.toNat fun c => putK s b (.iter bs p') fun s' => k (fd t (.tuple ⟨[.bool true, .int .i64 (.ofNat pos), .int .i32 (.ofNat c)]⟩)) s') none)
  (k (fd t (.tuple ⟨[.bool false]⟩)) s)) none
/-- Parts of what is built, each with its place and its cells. -/
inductive PL where
  | nil
  | cons (off sz : Nat) (f : VF) (r : PL)
  | bad
def cParts (P : Program) (place : Nat → Option (Nat × Nat)) : List (Nat × Operand) → PL
  | [] => .nil
  | (i, x) :: r => match cX P x, place i with
    | .ok f, some (off, sz + 1) => .cons off (sz + 1) f (cParts P place r)
    | _, _ => .bad
def runParts (t : Tri Value) : PL → List Value → (List Value → R) → R := @PL.rec (fun _ => List Value → (List Value → R) → R) (fun l k => k l)
  (fun off sz f _ ih l k => ifB (Nat.beq (List.length (cellsV (f t))) sz) (onSome (overL off (cellsV (f t)) l) fun l' => ih l' k) none) (fun _ _ => none)
def kBuild (p : PL) (z : List Value) (fd : DF) : OK := .mk fun _ _ t s k => runParts t p z fun l => k (fd t (.agg ⟨l⟩)) s
def kBuildSlice (p : PL) (z : List Value) (e : TypeId) (len : Nat) (fd : DF) : OK := .mk fun _ _ t s k => runParts t p z fun l => newK s (.row (rowOf l) (List.length l) e false false) fun n s' => k (fd t (.slice (some ⟨n, 0, none⟩) len len)) s'
inductive AC where
  | ok (f : Tri Value → List Value)
  | bad
def cArgs (P : Program) : List Operand → AC
  | [] => .ok fun _ => []
  | x :: l => match cX P x, cArgs P l with
    | .ok f, .ok g => .ok fun t => f t :: g t
    | _, _ => .bad
def outK (e : Env) (t : Tri Value) (fd : DF) (k : KN) (c : R) : R := onSome c (@COut.rec (fun _ => R) fun en s' => @En.rec (fun _ => R) (fun v => k (fd t v) s') (fun v => e.pan v t s') en)
def kCall (g : OK) (f : FuncId) (args : AC) (fd : DF) : OK := match args with
  | .ok fa => .mk fun e _ t s k => outK e t fd k (e.call (.fn f) (fa t) s)
  | .bad => g

def kCallV (P : Program) (g : OK) (x : OC) (args : AC) (fd : DF) : OK := match x, args with
  | .ok fx, .ok fa => .mk fun e _ t s k => outK e t fd k (invF P e.call (fx t) (fa t) s)
  | _, _ => g
def kAppend (P : Program) (ty : TypeId) (g : OK) (x y : OC) (fd : DF) : OK := w2 g x y fun fx fy _ _ t s k => onSome (appendF P ty (fx t) (fy t) s) (@Prod.rec Value St (fun _ => R) fun v s' => k (fd t v) s')
def kIntOp (op : BinOp) (g : OK) (x y : OC) (fd : DF) : OK := w2 g x y fun fx fy _ _ t s k => onInt (fx t) fun ka m => onInt (fy t) fun kb n => ifB (eqK ka kb) (onSome (intOpF op ka m n) fun v => k (fd t v) s) none
def kStrEq (want : Bool) (g : OK) (x y : OC) (fd : DF) : OK := w2 g x y fun fx fy _ _ t s k => onStr (fx t) fun a => onStr (fy t) fun b => ifB (eqBytes a.data.toList b.data.toList) (k (fd t (.bool want)) s) (k (fd t (.bool (notB want))) s)
def kIface (ty : TypeId) (g : OK) (x : OC) (fd : DF) : OK := w1 g x fun fx _ _ t s k => k (fd t (.iface ty (fx t))) s
def isShift : BinOp → Bool
  | .shl | .shr => true
  | _ => false

def cPure (P : Program) (o : Oper) (fd : DF) : OK :=
  let g := genPure P o fd
  match o.op with
  | .move x | .assign x => kMove g (cX P x) fd
  | .alloc ty => match zeroT P ty with
    | some z => kNew g z ty fd
    | none => g
  | .box ty x => kBox ty g (cX P x) fd
  | .load ty x => match tk P ty with
    | some .one => kLoad1 g (cX P x) fd
    | some (.many m) => kLoadN m g (cX P x) fd
    | none => g
  | .nilCheck x => kNilCheck g (cX P x) fd
  | .binOp op ty x y _ => match P.underlying ty with
    | some (.int _) => (match op with
      | .add => kArith Int.add g (cX P x) (cX P y) fd
      | .sub => kArith Int.sub g (cX P x) (cX P y) fd
      | .mul => kArith Int.mul g (cX P x) (cX P y) fd
      | .eql => kCmp eqI g (cX P x) (cX P y) fd
      | .neq => kCmp neI g (cX P x) (cX P y) fd
      | .lss => kCmp ltI g (cX P x) (cX P y) fd
      | .gtr => kCmp gtI g (cX P x) (cX P y) fd
      | .leq => kCmp leI g (cX P x) (cX P y) fd
      | .geq => kCmp geI g (cX P x) (cX P y) fd
      | op => match isShift op with
        | true => g
        | false => kIntOp op g (cX P x) (cX P y) fd)
    | some .string => (match op with
      | .eql => kStrEq true g (cX P x) (cX P y) fd
      | .neq => kStrEq false g (cX P x) (cX P y) fd
      | _ => g)
    | _ => g
  | .pick c a b => kPick g (cX P c) (cX P a) (cX P b) fd
  | .build ty parts => match zeroT P ty, P.underlying ty with
    | some z, some (.struct fs) => match sizesOk P fs.toList with
      | true => kBuild (cParts P (placeF P fs.toList) parts.toList) (cellsV z) fd
      | false => g
    | some z, some (.array _ e) => match sizeT P e with
      | some sz => kBuild (cParts P (fun i => some (Nat.mul i sz, sz)) parts.toList) (cellsV z) fd
      | none => g
    | _, _ => g
  | .buildSlice ty len parts => match P.underlying ty with
    | some (.slice e) => match elemZ P e with
      | some (sz, z) => match Nat.ble (Nat.mul len sz) 100000 with
        | true => kBuildSlice (cParts P (fun i => some (Nat.mul i sz, sz)) parts.toList) (repL len z) e len fd
        | false => g
      | none => g
    | _ => g
  | .makeInterface ty x => match P.underlying ty with
    | some (.interface _) => g
    | some _ => kIface ty g (cX P x) fd
    | none => g
  | .unOp op _ x => match op with
    | .not => kNot g (cX P x) fd
    | _ => g
  | .convert src dst x => match P.underlying src, P.underlying dst with
    | some (.int _), some (.int k) => kConv k g (cX P x) fd
    | _, _ => g
  | .call c => match c.callee with
    | .builtin .len => match c.args.toList, c.argTypes.toList with
      | [x], [t] => match P.underlying t with
        | some .string => kLenStr g (cX P x) fd
        | some (.slice _) => kLenSl g (cX P x) fd
        | _ => g
      | _, _ => g
    | _ => g
  | .fieldAddr ty x f => match P.underlying ty with
    | some (.struct fs) => match nth fs.toList f with
      | some fdl => match sizeT P fdl.type with
        | some (_ + 1) => kFieldAddr fdl.offset g (cX P x) fd
        | _ => g
      | none => g
    | _ => g
  | .indexAddr ty x i => match P.underlying ty with
    | some (.slice e) => match sizeT P e with
      | some sz => kIndexAddrS sz g (cX P x) (cX P i) fd
      | none => g
    | _ => g
  | .index ty x i => match P.underlying ty with
    | some .string => kIndexStr g (cX P x) (cX P i) fd
    | _ => g
  | .extract x i => kExtract i g (cX P x) fd
  | _ => g

def cEff (P : Program) (o : Oper) (fd : DF) : OK :=
  match o.op with
  | .store ty a x => match sizeT P ty with
    | some 1 => kStore1 (genEff P o fd) (cX P a) (cX P x) fd
    | some n => kStoreN n (genEff P o fd) (cX P a) (cX P x) fd
    | none => genEff P o fd
  | .next i true => kNext (genEff P o fd) (cX P i) fd
  | .call c => match c.callee with
    | .value f => (match f with
      | .func f => kCall (genEff P o fd) f (cArgs P c.args.toList) fd
      | x => kCallV P (genEff P o fd) (cX P x) (cArgs P c.args.toList) fd)
    | .builtin .append => match c.argTypes.toList, c.args.toList with
      | [ty, t2], [x, y] => match P.underlying t2 with
        | some (.int _) => genEff P o fd
        | some _ => kAppend P ty (genEff P o fd) (cX P x) (cX P y) fd
        | none => genEff P o fd
      | _, _ => genEff P o fd
    | _ => genEff P o fd
  | _ => genEff P o fd
def cRaw (P : Program) (o : Oper) (fd : DF) : OK := match isEff o with
  | false => cPure P o fd
  | true => cEff P o fd
/-- An operation that is done if a test came out so. -/
def kGuard (want : Bool) (fx : VF) (f : OF) (fd : DF) : OF := match want with
  | true => fun e rd t s k => onBool3 (fx t) (f e rd t s k) (k (fd t undef) s) (k (fd t undef) s)
  | false => fun e rd t s k => onBool3 (fx t) (k (fd t undef) s) (f e rd t s k) (k (fd t undef) s)
def cOp (P : Program) (nt : Nat) (ops : List Oper) (o : Oper) : OK :=
  match cD nt o.dst with
  | .ok fd => match o.guard with
    | none => cRaw P o fd
    | some (j, want) => match nth ops j with
      | some oj => match oj.dst with
        | some d => match cX P (.tmp d), cRaw P o fd with
          | .ok fx, .mk f => .mk (kGuard want fx f fd)
          | .bad, _ => genOp P nt ops o
        | none => genOp P nt ops o
      | none => genOp P nt ops o
  | .bad => genOp P nt ops o

/- ---- regions ---- -/
inductive RegK where
  | nil
  | cons (f : OF) (l : RegK)
def cOps (P : Program) (nt : Nat) (ops : List Oper) : List Oper → RegK
  | [] => .nil
  | o :: l => match cOp P nt ops o, cOps P nt ops l with
    | .mk f, r => .cons f r
def runOps : RegK → Env → KN → KN :=
  @RegK.rec (fun _ => Env → KN → KN) (fun _ k => k) (fun f _ ih e k t s => f e (rdS s) t s (ih e k))
/-- A region that draws: each operation with how many effects are among its ancestors. -/
inductive DrawK where
  | nil
  | cons (eff : Bool) (j : Nat) (f : OF) (l : DrawK)
def cSeq (P : Program) (nt : Nat) (ops : List Oper) (an effs : List Nat) : List Nat → Option DrawK
  | [] => some .nil
  | i :: l => match nth ops i, nth an i with
    | some o, some m => match cOp P nt ops o, cSeq P nt ops an effs l with
      | .mk f, some r => some (.cons (isEff o) (cntE m effs) f r)
      | _, none => none
    | _, _ => none
def snocN (l : List Nat) (n : Nat) (k : List Nat → R) : R := forceN n fun n => k (l ++ [n])
def runSeq : DrawK → Env → KN → List Nat → KN :=
  @DrawK.rec (fun _ => Env → KN → List Nat → KN) (fun _ k _ t s => k t s) (fun eff j f _ ih e k clks t s =>
    @Bool.rec (fun _ => R) (onSome (nth clks j) fun lim => f e (rdL s lim) t s (ih e k clks)) (f e (rdS s) t s fun t' s' => snocN clks s'.n fun clks' => ih e k clks' t' s') eff)
def noPan (e : Env) : Env := @Env.rec (fun _ => Env) (fun call _ ret ex goto => ⟨call, fun _ _ _ => none, ret, ex, goto⟩) e

/- ---- code ---- -/
abbrev CF := Env → Tri Value → St → KN → R
def withEx (e : Env) (id : Nat) (k : KN) : Env := @Env.rec (fun _ => Env) (fun call pan ret ex goto => ⟨call, pan, ret, fun j => @Bool.rec (fun _ => KN) (ex j) k (Nat.beq j id), goto⟩) e
def withGo (e : Env) (g : Nat → KN) : Env := @Env.rec (fun _ => Env) (fun call pan ret ex _ => ⟨call, pan, ret, ex, g⟩) e
def loopR (f : CF) (e : Env) : Nat → KN := @Nat.rec (fun _ => KN) (fun _ _ => none) (fun _ ih t s => f e t s ih)
/-- Labels, and the code behind each. -/
inductive LabK where
  | nil
  | cons (l : Nat) (f : CF) (r : LabK)
def LabK.find (l : Nat) (no : R) (k : CF → R) : LabK → R := @LabK.rec (fun _ => R) no (fun l' f _ ih => @Bool.rec (fun _ => R) ih (k f) (Nat.beq l l'))
def scopeR (tab : LabK) (e : Env) (k : KN) : Nat → CF → KN := @Nat.rec (fun _ => CF → KN) (fun _ _ _ => none) (fun _ ih f t s => f (withGo e fun l t s => LabK.find l none (fun f' => ih f' t s) tab) t s k)
def labels : Code → List Nat
  | .label l => [l]
  | .seq a b => labels a ++ labels b
  | .cond _ a b => labels a ++ labels b
  | .block _ a => labels a
  | .loop a => labels a
  | .scope a => labels a
  | _ => []
def ckNo : Cl CF := .mk fun _ _ _ _ => none
def cDraw (P : Program) (nt : Nat) (ops : List Oper) : Cl CF := match planOf ops with
  | none => ckNo
  | some pl => match cSeq P nt ops pl.an pl.effs pl.sig with
    | none => ckNo
    | some d => match pl.tau with
      | [] => .mk fun e t s k => forceN s.n fun n => runSeq d (noPan e) k [n] t s
      | a :: l => .mk fun e t s k => forceN s.n fun n => runSeq d (noPan e) (fun t s => onSome (tailF P nt ops (a :: l) [] t s) fun p => @Prod.rec (Tri Value) St (fun _ => R) k p) [n] t s
def cLab (cf : Code → Cl CF) (whole : Code) : List Nat → LabK
  | [] => .nil
  | l :: r => match findLabel whole l with
    | some rest => match cf rest with
      | .mk f => .cons l f (cLab cf whole r)
    | none => cLab cf whole r
/-- Code without what is put off, in at most so many steps inward. -/
def cC (P : Program) (q nt : Nat) : Nat → Code → Cl CF
  | 0, _ => ckNo
  | d + 1, c => match c with
    | .skip => .mk fun _ t s k => k t s
    | .label _ => .mk fun _ t s k => k t s
    | .exit id => .mk fun e t s _ => e.ex id t s
    | .ret => .mk fun e t s _ => e.ret t s
    | .goto l => .mk fun e t s _ => e.goto l t s
    | .region _ ops draw => match draw with
      | false => match cOps P nt ops.toList ops.toList with
        | l => .mk fun e t s k => runOps l e k t s
      | true => cDraw P nt ops.toList
    | .seq a b => match cC P q nt d a, cC P q nt d b with
      | .mk fa, .mk fb => .mk fun e t s k => fa e t s fun t s => fb e t s k
    | .cond x a b => match cX P x, cC P q nt d a, cC P q nt d b with
      | .ok fx, .mk fa, .mk fb => .mk fun e t s k => onBool (fx t) (fa e t s k) (fb e t s k)
      | _, _, _ => ckNo
    | .block id body => match cC P q nt d body with
      | .mk f => .mk fun e t s k => f (withEx e id k) t s k
    | .loop body => match cC P q nt d body with
      | .mk f => .mk fun e t s _ => loopR f e q t s
    | .scope body => match cC P q nt d body, cLab (cC P q nt d) body (labels body) with
      | .mk f, tab => .mk fun e t s k => scopeR tab e k q f t s
    | _ => ckNo
/-- Is nothing put off? -/
def simpleO : List Oper → Bool
  | [] => true
  | o :: l => match o.op with
    | .defer _ => false
    | _ => simpleO l
/-- Can all of it be taken? -/
def simpleC : Code → Bool
  | .skip | .label _ | .exit _ | .ret | .goto _ => true
  | .region _ ops _ => simpleO ops.toList
  | .seq a b => andB (simpleC a) (simpleC b)
  | .cond _ a b => andB (simpleC a) (simpleC b)
  | .block _ a => simpleC a
  | .loop a => simpleC a
  | .scope a => simpleC a
  | _ => false
/-- What a function hands back, if all of it stands in temporaries. -/
def cRes : List ResultVar → AC
  | [] => .ok fun _ => []
  | .tmp i :: l => match @acc Value i, cRes l with
    | .mk f, .ok g => .ok fun t => @Option.rec Value (fun _ => Value) undef (fun v => v) (f t) :: g t
    | _, .bad => .bad
  | _ => .bad
inductive FK where
  | fast (nt : Nat) (f : CF) (fin : KN)
  | slow (fn : Func) (c : Code)
  | none
def retK (v : Value) (s : St) : R := some ⟨.ret v, s⟩
def finK (P : Program) (fn : Func) : KN := fun t s => onSome (resF P t s fn.results.toList) fun vs => some ⟨.ret (tupF vs), s⟩
def cFin (P : Program) (fn : Func) : Cl KN := match cRes fn.results.toList with
  | .ok g => match fn.results.toList with
    | [_] => .mk fun t s => @List.rec Value (fun _ => R) none (fun v _ _ => retK v s) (g t)
    | _ => .mk fun t s => retK (.tuple ⟨g t⟩) s
  | .bad => .mk (finK P fn)
def cF (P : Program) (q dp : Nat) (f : FuncId) : FK := match P.funcs[f]? with
  | some fn => match fn.body with
    | some c => match simpleC c with
      | true => match cC P q fn.ntmps dp c, cFin P fn with
        | .mk g, .mk h => .fast fn.ntmps g h
      | false => .slow fn c
    | none => .none
  | none => .none
def endSlow (P : Program) (call : CallF) (fuel : Nat) (fn : Func) (o : Option Out) : R := match o with
  | some ⟨.normal, t, d, s'⟩ | some ⟨.ret, t, d, s'⟩ => leaveF P call fuel fn t d .out s'
  | some ⟨.panic v, t, d, s'⟩ => leaveF P call fuel fn t d (.pan v) s'
  | _ => none
def fastK (call : CallF) (nt : Nat) (g : CF) (h : KN) (args : List Value) (s : St) : R :=
  ifB (Nat.ble (lenL args) nt) (g ⟨call, fun v _ s => some ⟨.panic v, s⟩, h, fun _ _ _ => none, fun _ _ _ => none⟩ (argsT args) s h) none
def runK (P : Program) (q dp fuel : Nat) (call : CallF) (f : FuncId) (args : List Value) (s : St) : R :=
  @FK.rec (fun _ => R) (fun nt g h => fastK call nt g h args s)
    (fun fn c => endSlow P call fuel fn (codeF P call none (Nat.max fn.ntmps (lenL args)) fuel c (argsT args) [] s)) none (cF P q dp f)
/-- sf tells of which functions something may be known ahead of their run. -/
def callT (P : Program) (sf : FuncId → Bool) (sm : Summ) (q dp fuel : Nat) : Nat → CallF :=
  @Nat.rec (fun _ => CallF) (fun _ _ _ => none) fun _ call tgt args s =>
    @Tgt.rec (fun _ => R) (fun f => @Bool.rec (fun _ => R) (runK P q dp fuel call f args s)
      (@Option.rec R (fun _ => R) (runK P q dp fuel call f args s) (fun r => r) (sm f args s)) (sf f)) (fun l => roundF P call fuel l args s) tgt
end
end Go.Ev

/- The twin's operations are sound. -/
namespace Go.Ev

theorem onInt_inv {v : Value} {k : IntKind → Int → R} {r : COut} (h : onInt v k = some r) : ∃ a n, v = .int a n ∧ k a n = some r := by
  cases v with
  | int a n => exact ⟨a, n, rfl, h⟩
  | _ => cases h
theorem onBool_inv {v : Value} {x y : R} {r : COut} (h : onBool v x y = some r) : (v = .bool true ∧ x = some r) ∨ (v = .bool false ∧ y = some r) := by
  cases v with
  | bool b => cases b; exact .inr ⟨rfl, h⟩; exact .inl ⟨rfl, h⟩
  | _ => cases h
theorem onBool3_inv {v : Value} {x y d : R} {r : COut} (h : onBool3 v x y d = some r) : (v = .bool true ∧ x = some r) ∨ (v = .bool false ∧ y = some r) ∨ ((∀ b, v ≠ .bool b) ∧ d = some r) := by
  cases v with
  | bool b => cases b; exact .inr (.inl ⟨rfl, h⟩); exact .inl ⟨rfl, h⟩
  | _ => exact .inr (.inr ⟨by simp, h⟩)
theorem onAgg_inv {v : Value} {k : Array Value → R} {r : COut} (h : onAgg v k = some r) : ∃ a, v = .agg a ∧ k a = some r := by
  cases v with
  | agg a => exact ⟨a, rfl, h⟩
  | _ => cases h
theorem onIter_inv {o : Option AObj} {k : ByteArray → Nat → R} {r : COut} (h : onIter o k = some r) : ∃ b p, o = some (.iter b p) ∧ k b p = some r := by
  cases o with
  | none => cases h
  | some a =>
    cases a with
    | iter b p => exact ⟨b, p, rfl, h⟩
    | _ => cases h
theorem onStr_inv {v : Value} {k : ByteArray → R} {r : COut} (h : onStr v k = some r) : ∃ b, v = .string b ∧ k b = some r := by
  cases v with
  | string b => exact ⟨b, rfl, h⟩
  | _ => cases h
theorem onPtr_inv {v : Value} {k : Option Addr → R} {r : COut} (h : onPtr v k = some r) : ∃ a, v = .pointer a ∧ k a = some r := by
  cases v with
  | pointer a => exact ⟨a, rfl, h⟩
  | _ => cases h
theorem onPtrD_inv {v : Value} {d : R} {k : Option Addr → R} {r : COut} (h : onPtrD v d k = some r) : (∃ a, v = .pointer a ∧ k a = some r) ∨ d = some r := by
  cases v with
  | pointer a => exact .inl ⟨a, rfl, h⟩
  | _ => exact .inr h
theorem onSl_inv {v : Value} {k : Option Addr → Nat → Nat → R} {r : COut} (h : onSl v k = some r) : ∃ a n c, v = .slice a n c ∧ k a n c = some r := by
  cases v with
  | slice a n c => exact ⟨a, n, c, rfl, h⟩
  | _ => cases h
theorem onTup_inv {v : Value} {k : Array Value → R} {r : COut} (h : onTup v k = some r) : ∃ a, v = .tuple a ∧ k a = some r := by
  cases v with
  | tuple a => exact ⟨a, rfl, h⟩
  | _ => cases h
theorem oneV_inv {v : Value} {k : R} {r : COut} (h : oneV v k = some r) : cellsV v = [v] ∧ oneL [v] = true ∧ k = some r := by
  cases v with
  | agg a => cases h
  | tuple a => cases h
  | _ => exact ⟨rfl, rfl, h⟩
theorem ifB_inv {b : Bool} {x y : R} {r : COut} (h : ifB b x y = some r) : (b = true ∧ x = some r) ∨ (b = false ∧ y = some r) := by
  cases b; exact .inr ⟨rfl, h⟩; exact .inl ⟨rfl, h⟩
theorem ifB_inv' {b : Bool} {x : R} {r : COut} (h : ifB b x none = some r) : b = true ∧ x = some r := by
  cases b; cases h; exact ⟨rfl, h⟩
theorem onSome_inv {α : Type} {o : Option α} {k : α → R} {r : COut} (h : onSome o k = some r) : ∃ a, o = some a ∧ k a = some r := by
  cases o; cases h; exact ⟨_, rfl, h⟩
theorem onAddr_inv {o : Option Addr} {k : Nat → Nat → R} {r : COut} (h : onAddr o k = some r) : ∃ b i, o = some ⟨b, i, none⟩ ∧ k b i = some r := by
  cases o with
  | none => cases h
  | some a =>
    obtain ⟨b, i, sp⟩ := a
    cases sp with
    | none => exact ⟨b, i, rfl, h⟩
    | some x => cases h
theorem onRow_inv {o : Option AObj} {k : Tri Value → Nat → TypeId → Bool → Bool → R} {r : COut} (h : onRow o k = some r) : ∃ cs n e opn fz, o = some (.row cs n e opn fz) ∧ k cs n e opn fz = some r := by
  cases o with
  | none => cases h
  | some a =>
    cases a with
    | row cs n e opn fz => exact ⟨cs, n, e, opn, fz, rfl, h⟩
    | _ => cases h
theorem onNat_inv {n : Int} {k : Nat → R} {r : COut} (h : onNat n k = some r) : ∃ m, n = .ofNat m ∧ k m = some r := by
  cases n with
  | ofNat m => exact ⟨m, rfl, h⟩
  | negSucc m => cases h
theorem putK_eq (s : St) (a : Nat) (o : AObj) (k : St → R) : putK s a o k = k (s.put a o) := by cases s; rfl
theorem newK_eq (s : St) (o : AObj) (k : Nat → St → R) : newK s o k = k s.n (s.new o) := by cases s; rfl
theorem forceI_eq (n : Int) (k : Int → R) : forceI n k = k n := by cases n <;> rfl

section
variable {P : Program} {nt : Nat}
theorem cX_ok {x : Operand} {f : VF} (h : cX P x = .ok f) (t : Tri Value) : opv P t x = some (f t) := by
  cases x with
  | tmp i =>
    simp only [cX] at h
    cases hA : @acc Value i with
    | mk g =>
      rw [hA] at h; cases h
      simp only [opv, Tri.get_run, hA, Cl.run]
      cases g t <;> rfl
  | const v =>
    simp only [cX] at h
    simp only [opv]
    split at h
    · rename_i hf; cases h; rw [hf]
    · cases h
  | global g =>
    simp only [cX] at h
    simp only [opv]
    split at h
    · rename_i hf; cases h; rw [hf]
    · cases h
  | func f' => simp only [cX] at h; cases h; rfl
theorem cD_ok {d : Option Tmp} {fd : DF} (h : cD nt d = .ok fd) (t : Tri Value) (v : Value) : putT nt t d v = some (fd t v) := by
  cases d with
  | none => simp only [cD] at h; cases h; rfl
  | some d =>
    simp only [cD] at h
    split at h
    · rename_i hb
      cases hA : @upd Value d with
      | mk f =>
        rw [hA] at h; cases h
        simp only [putT, hb, Tri.set, Tri.put_run, hA, Cl.run]
    · cases h
theorem cArgs_ok : ∀ {l : List Operand} {f : Tri Value → List Value}, cArgs P l = .ok f → ∀ t, opvs (opv P t) l = some (f t) := by
  intro l
  induction l with
  | nil => intro f h t; simp only [cArgs] at h; cases h; rfl
  | cons x l ih =>
    intro f h t
    simp only [cArgs] at h
    split at h
    · rename_i fx fl hx hl
      cases h
      simp only [opvs, cX_ok hx, ih hl]
    · cases h

/-- What is asked of an operation's closure. -/
def OpOk (P : Program) (nt : Nat) (ops : List Oper) (o : Oper) (f : OF) : Prop :=
  ∀ e rd t s k r, f e rd t s k = some r → SR.cont e k (stepR P e.call nt ops rd t s o) = some r
def PureOk (P : Program) (o : Oper) (fd : DF) (f : OF) : Prop :=
  ∀ e rd t s k r, f e rd t s k = some r → ∃ po, pureOp P (opv P t) rd o = some po ∧ k (fd t (poDo s po).1) (poDo s po).2 = some r
def EffOk (P : Program) (o : Oper) (fd : DF) (f : OF) : Prop :=
  ∀ e rd t s k r, f e rd t s k = some r → ∃ c, effOp P e.call (opv P t) s o = some c ∧ (match c with | ⟨.ret v, s'⟩ => k (fd t v) s' | ⟨.panic v, s'⟩ => e.pan v t s') = some r
def OK.run (o : OK) : OF := match o with | .mk f => f

/-- Where it is wanted. -/
def RawOk (P : Program) (nt : Nat) (ops : List Oper) (o : Oper) (f : OF) : Prop :=
  ∀ e rd t s k r, f e rd t s k = some r → wantF ops t o = true → SR.cont e k (stepR P e.call nt ops rd t s o) = some r
theorem PureOk.op {ops : List Oper} {o : Oper} {fd : DF} {f : OF} (hd : cD nt o.dst = .ok fd) (he : isEff o = false) (h : PureOk P o fd f) : RawOk P nt ops o f := by
  intro e rd t s k r hr hw
  obtain ⟨po, h1, h2⟩ := h e rd t s k r hr
  simp only [stepR, hw, he, h1, cD_ok hd, SR.cont]
  exact h2
theorem EffOk.op {ops : List Oper} {o : Oper} {fd : DF} {f : OF} (hd : cD nt o.dst = .ok fd) (he : isEff o = true) (h : EffOk P o fd f) : RawOk P nt ops o f := by
  intro e rd t s k r hr hw
  obtain ⟨c, h1, h2⟩ := h e rd t s k r hr
  obtain ⟨en, s'⟩ := c
  cases en with
  | ret v => simp only [stepR, hw, he, h1, cD_ok hd, SR.cont]; exact h2
  | panic v => simp only [stepR, hw, he, h1, SR.cont]; exact h2
theorem genOp_ok (ops : List Oper) (o : Oper) : OpOk P nt ops o (genOp P nt ops o).run := fun _ _ _ _ _ _ h => h
theorem genPure_ok (o : Oper) (fd : DF) : PureOk P o fd (genPure P o fd).run := by
  intro e rd t s k r h
  obtain ⟨po, h1, h2⟩ := onSome_inv h
  refine ⟨po, h1, ?_⟩
  cases po with
  | val v => exact h2
  | new ob v =>
    have h2 : newK s ob _ = some r := h2
    rw [newK_eq] at h2; exact h2
theorem genEff_ok (o : Oper) (fd : DF) : EffOk P o fd (genEff P o fd).run := by
  intro e rd t s k r h
  obtain ⟨c, h1, h2⟩ := onSome_inv h
  refine ⟨c, h1, ?_⟩
  obtain ⟨en, s'⟩ := c
  cases en <;> exact h2
theorem w1_pure {o : Oper} {fd : DF} {g : OK} {x : Operand} {k : VF → OF} (hg : PureOk P o fd g.run) (hk : ∀ f, (∀ t, opv P t x = some (f t)) → PureOk P o fd (k f)) : PureOk P o fd (w1 g (cX P x) k).run := by
  unfold w1
  split
  · rename_i f hf; exact hk f (cX_ok hf)
  · exact hg
theorem w2_pure {o : Oper} {fd : DF} {g : OK} {x y : Operand} {k : VF → VF → OF} (hg : PureOk P o fd g.run) (hk : ∀ f h, (∀ t, opv P t x = some (f t)) → (∀ t, opv P t y = some (h t)) → PureOk P o fd (k f h)) : PureOk P o fd (w2 g (cX P x) (cX P y) k).run := by
  unfold w2
  split
  · rename_i f h hf hh; exact hk f h (cX_ok hf) (cX_ok hh)
  · exact hg
theorem w2_eff {o : Oper} {fd : DF} {g : OK} {x y : Operand} {k : VF → VF → OF} (hg : EffOk P o fd g.run) (hk : ∀ f h, (∀ t, opv P t x = some (f t)) → (∀ t, opv P t y = some (h t)) → EffOk P o fd (k f h)) : EffOk P o fd (w2 g (cX P x) (cX P y) k).run := by
  unfold w2
  split
  · rename_i f h hf hh; exact hk f h (cX_ok hf) (cX_ok hh)
  · exact hg
end
end Go.Ev

/- Each operation's closure is sound. -/
namespace Go.Ev
section
variable {P : Program} {nt : Nat}
theorem fillB_get (l : List UInt8) : ∀ (i : Nat) (t : Tri UInt8) (j : Nat), (fillB l i t).get j = if i ≤ j ∧ j < i + l.length then l[j - i]? else t.get j := by
  induction l with
  | nil => intro i t j; simp only [fillB, List.length_nil]; rw [if_neg (by omega)]
  | cons v l ih =>
    intro i t j
    simp only [fillB]
    rw [ih]
    have e1 : Nat.add i 1 = i + 1 := rfl
    rw [e1, Tri.get_set, List.length_cons]
    by_cases h : j = i
    · subst h
      rw [if_neg (by omega), if_pos rfl, if_pos (by omega)]; simp
    · rw [if_neg h]
      by_cases h2 : i + 1 ≤ j ∧ j < i + 1 + l.length
      · rw [if_pos h2, if_pos (by omega)]
        have : j - i = (j - (i + 1)) + 1 := by omega
        rw [this]; rfl
      · rw [if_neg h2, if_neg (by omega)]
theorem byteT_get (l : List UInt8) (j : Nat) : (byteT l).get j = nth l j := by
  unfold byteT
  rw [fillB_get, nth_eq, Tri.get_leaf]
  by_cases h : j < l.length
  · rw [if_pos (by omega)]; simp
  · rw [if_neg (by omega)]; symm; simpa using h

theorem kMove_ok {o : Oper} {fd : DF} {g : OK} {x : Operand} (hop : o.op = .move x ∨ o.op = .assign x) (hg : PureOk P o fd g.run) : PureOk P o fd (kMove g (cX P x) fd).run :=
  w1_pure hg fun f hf e rd t s k r h => by
    refine ⟨.val (f t), ?_, h⟩
    rcases hop with hop | hop <;> simp only [pureOp, hop, hf t]
theorem kLoad1_ok {o : Oper} {fd : DF} {g : OK} {x : Operand} {ty : TypeId} (hop : o.op = .load ty x) (hk : tk P ty = some .one) (hg : PureOk P o fd g.run) : PureOk P o fd (kLoad1 g (cX P x) fd).run :=
  w1_pure hg fun f hf e rd t s k r h => by
    obtain ⟨a, h1, h⟩ := onPtr_inv h
    obtain ⟨b, i, rfl, h⟩ := onAddr_inv h
    obtain ⟨cs, n, el, opn, fz, h2, h⟩ := onRow_inv h
    obtain ⟨h3, h⟩ := ifB_inv' h
    obtain ⟨v, h4, h⟩ := onSome_inv h
    exact ⟨.val v, by simp only [pureOp, hop, hf t, h1, hk, loadA, h2, h3, h4], h⟩
theorem kLoadN_ok {o : Oper} {fd : DF} {g : OK} {x : Operand} {ty : TypeId} {m : Nat} (hop : o.op = .load ty x) (hk : tk P ty = some (.many m)) (hg : PureOk P o fd g.run) : PureOk P o fd (kLoadN m g (cX P x) fd).run :=
  w1_pure hg fun f hf e rd t s k r h => by
    obtain ⟨a, h1, h⟩ := onPtr_inv h
    obtain ⟨b, i, rfl, h⟩ := onAddr_inv h
    obtain ⟨cs, n, el, opn, fz, h2, h⟩ := onRow_inv h
    obtain ⟨h3, h⟩ := ifB_inv' h
    obtain ⟨v, h4, h⟩ := onSome_inv h
    exact ⟨.val (.agg ⟨v⟩), by simp only [pureOp, hop, hf t, h1, hk, loadA, h2, h3, h4], h⟩
theorem kStore1_ok {o : Oper} {fd : DF} {g : OK} {x y : Operand} {ty : TypeId} (hop : o.op = .store ty x y) (hk : sizeT P ty = some 1) (hg : EffOk P o fd g.run) : EffOk P o fd (kStore1 g (cX P x) (cX P y) fd).run :=
  w2_eff hg fun f g' hf hg' e rd t s k r h => by
    obtain ⟨a, h1, h⟩ := onPtr_inv h
    obtain ⟨b, i, rfl, h⟩ := onAddr_inv h
    obtain ⟨c1, c2, h⟩ := oneV_inv h
    obtain ⟨cs, n, el, opn, fz, h2, h⟩ := onRow_inv h
    obtain ⟨h3, h⟩ := ifB_inv' h
    rw [putK_eq] at h
    refine ⟨⟨.ret undef, s.put b (.row (cs.set i (g' t)) n el opn fz)⟩, ?_, h⟩
    have h3' : Nat.ble (Nat.add i 1) n = true := h3
    have e2 : storeA s ⟨b, i, none⟩ [g' t] = some (s.put b (.row (cs.set i (g' t)) n el opn fz)) := by
      unfold storeA
      simp only [h2, c2]
      rw [show Nat.ble (Nat.add i (List.length [g' t])) n = true from h3']
      rfl
    simp only [effOp, hop, hf t, hg' t, h1, hk, c1, e2]
    rfl
theorem kFieldAddr_ok {o : Oper} {fd : DF} {g : OK} {x : Operand} {ty : TypeId} {f : Nat} {fs : Array Field} {fl : Field} {m : Nat} (hop : o.op = .fieldAddr ty x f) (hu : P.underlying ty = some (.struct fs)) (hn : nth fs.toList f = some fl) (hs : sizeT P fl.type = some (m + 1)) (hg : PureOk P o fd g.run) : PureOk P o fd (kFieldAddr fl.offset g (cX P x) fd).run :=
  w1_pure hg fun fx hf e rd t s k r h => by
    obtain ⟨a, h1, h⟩ := onPtr_inv h
    obtain ⟨b, i, rfl, h⟩ := onAddr_inv h
    have h : k (fd t (.pointer (some ⟨b, i + fl.offset, none⟩))) s = some r := h
    refine ⟨.val (.pointer (some ⟨b, i + fl.offset, none⟩)), ?_, h⟩
    cases hof : fl.offset with
    | zero => simp only [pureOp, hop, hf t, h1, hu, hn, hs, hof]; rfl
    | succ q => simp only [pureOp, hop, hf t, h1, hu, hn, hs, hof]; rfl
theorem kIndexAddrS_ok {o : Oper} {fd : DF} {g : OK} {x y : Operand} {ty el : TypeId} {sz : Nat} (hop : o.op = .indexAddr ty x y) (hu : P.underlying ty = some (.slice el)) (hs : sizeT P el = some sz) (hg : PureOk P o fd g.run) : PureOk P o fd (kIndexAddrS sz g (cX P x) (cX P y) fd).run :=
  w2_pure hg fun fx fy hf hf' e rd t s k r h => by
    obtain ⟨a, n, c, h1, h⟩ := onSl_inv h
    obtain ⟨b, i, rfl, h⟩ := onAddr_inv h
    obtain ⟨kd, j, h2, h⟩ := onInt_inv h
    obtain ⟨j', rfl, h⟩ := onNat_inv h
    obtain ⟨h3, h⟩ := ifB_inv' h
    rw [forceN_eq] at h
    refine ⟨.val (.pointer (some ⟨b, i + j' * sz, none⟩)), ?_, h⟩
    simp only [pureOp, hop, hf t, hf' t, h1, h2, hu, h3, hs]
    rfl
theorem kIndexStr_ok {o : Oper} {fd : DF} {g : OK} {x y : Operand} {ty : TypeId} (hop : o.op = .index ty x y) (hu : P.underlying ty = some .string) (hg : PureOk P o fd g.run) : PureOk P o fd (kIndexStr g (cX P x) (cX P y) fd).run :=
  w2_pure hg fun fx fy hf hf' e rd t s k r h => by
    obtain ⟨b, h1, h⟩ := onStr_inv h
    obtain ⟨kd, j, h2, h⟩ := onInt_inv h
    obtain ⟨j', rfl, h⟩ := onNat_inv h
    obtain ⟨c, h3, h⟩ := onSome_inv h
    rw [forceN_eq] at h
    rw [byteT_get] at h3
    exact ⟨.val (.int .u8 (.ofNat c.toNat)), by simp only [pureOp, hop, hf t, hf' t, h1, h2, hu, h3], h⟩
theorem kLenStr_ok {o : Oper} {fd : DF} {g : OK} {x : Operand} {c : Call} {ty : TypeId} (hop : o.op = .call c) (hc : c.callee = .builtin .len) (ha : c.args.toList = [x]) (ht : c.argTypes.toList = [ty]) (hu : P.underlying ty = some .string) (hg : PureOk P o fd g.run) : PureOk P o fd (kLenStr g (cX P x) fd).run :=
  w1_pure hg fun fx hf e rd t s k r h => by
    obtain ⟨b, h1, h⟩ := onStr_inv h
    rw [forceN_eq] at h
    exact ⟨.val (.int .i64 (.ofNat (List.length b.data.toList))), by simp only [pureOp, hop, hc, ha, ht, hf t, h1, hu], h⟩
theorem kLenSl_ok {o : Oper} {fd : DF} {g : OK} {x : Operand} {c : Call} {ty el : TypeId} (hop : o.op = .call c) (hc : c.callee = .builtin .len) (ha : c.args.toList = [x]) (ht : c.argTypes.toList = [ty]) (hu : P.underlying ty = some (.slice el)) (hg : PureOk P o fd g.run) : PureOk P o fd (kLenSl g (cX P x) fd).run :=
  w1_pure hg fun fx hf e rd t s k r h => by
    obtain ⟨a, n, cp, h1, h⟩ := onSl_inv h
    exact ⟨.val (.int .i64 (.ofNat n)), by simp only [pureOp, hop, hc, ha, ht, hf t, h1, hu], h⟩
theorem kNilCheck_ok {o : Oper} {fd : DF} {g : OK} {x : Operand} (hop : o.op = .nilCheck x) (hg : PureOk P o fd g.run) : PureOk P o fd (kNilCheck g (cX P x) fd).run := by
  unfold kNilCheck
  cases g with
  | mk gf =>
    refine w1_pure hg fun fx hf e rd t s k r h => ?_
    rcases onPtrD_inv h with ⟨a, h1, h⟩ | h
    · obtain ⟨a, rfl, h⟩ := onSome_inv h
      exact ⟨.val (.pointer (some a)), by simp only [pureOp, hop, hf t, h1], h⟩
    · exact hg e rd t s k r h
theorem kExtract_ok {o : Oper} {fd : DF} {g : OK} {x : Operand} {i : Nat} (hop : o.op = .extract x i) (hg : PureOk P o fd g.run) : PureOk P o fd (kExtract i g (cX P x) fd).run :=
  w1_pure hg fun fx hf e rd t s k r h => by
    obtain ⟨a, h1, h⟩ := onTup_inv h
    obtain ⟨v, h2, h⟩ := onSome_inv h
    exact ⟨.val v, by simp only [pureOp, hop, hf t, h1, h2], h⟩
theorem kArith_ok {o : Oper} {fd : DF} {g : OK} {x y : Operand} {op : BinOp} {ty : TypeId} {q : TypeId} {F : Int → Int → Int} (hop : o.op = .binOp op ty x y q) (hF : ∀ k m n, intOpF op k m n = some (.int k (wrapF k (F m n)))) (hs : op ≠ .shl ∧ op ≠ .shr) (hg : PureOk P o fd g.run) : PureOk P o fd (kArith F g (cX P x) (cX P y) fd).run :=
  w2_pure hg fun fx fy hf hf' e rd t s k r h => by
    obtain ⟨ka, m, h1, h⟩ := onInt_inv h
    obtain ⟨kb, n, h2, h⟩ := onInt_inv h
    obtain ⟨h3, h⟩ := ifB_inv' h
    rw [forceI_eq] at h
    refine ⟨.val (.int ka (wrapF ka (F m n))), ?_, h⟩
    simp only [pureOp, hop, hf t, hf' t, h1, h2, binF]
    cases op <;> first | exact absurd rfl hs.1 | exact absurd rfl hs.2 | simp only [h3, hF]
theorem kCmp_ok {o : Oper} {fd : DF} {g : OK} {x y : Operand} {op : BinOp} {ty : TypeId} {q : TypeId} {F : Int → Int → Bool} (hop : o.op = .binOp op ty x y q) (hF : ∀ k m n, intOpF op k m n = some (.bool (F m n))) (hs : op ≠ .shl ∧ op ≠ .shr) (hg : PureOk P o fd g.run) : PureOk P o fd (kCmp F g (cX P x) (cX P y) fd).run :=
  w2_pure hg fun fx fy hf hf' e rd t s k r h => by
    obtain ⟨ka, m, h1, h⟩ := onInt_inv h
    obtain ⟨kb, n, h2, h⟩ := onInt_inv h
    obtain ⟨h3, h⟩ := ifB_inv' h
    refine ⟨.val (.bool (F m n)), ?_, ?_⟩
    · simp only [pureOp, hop, hf t, hf' t, h1, h2, binF]
      cases op <;> first | exact absurd rfl hs.1 | exact absurd rfl hs.2 | simp only [h3, hF]
    · rcases ifB_inv h with ⟨h4, h⟩ | ⟨h4, h⟩ <;> rw [h4] <;> exact h
theorem kConv_ok {o : Oper} {fd : DF} {g : OK} {x : Operand} {src dst : TypeId} {k0 kd : IntKind} (hop : o.op = .convert src dst x) (h0 : P.underlying src = some (.int k0)) (h1 : P.underlying dst = some (.int kd)) (hg : PureOk P o fd g.run) : PureOk P o fd (kConv kd g (cX P x) fd).run :=
  w1_pure hg fun fx hf e rd t s k r h => by
    obtain ⟨ka, m, h2, h⟩ := onInt_inv h
    rw [forceI_eq] at h
    exact ⟨.val (.int kd (wrapF kd m)), by simp only [pureOp, hop, hf t, h0, h1, h2], h⟩
theorem kNot_ok {o : Oper} {fd : DF} {g : OK} {x : Operand} {q : TypeId} (hop : o.op = .unOp .not q x) (hg : PureOk P o fd g.run) : PureOk P o fd (kNot g (cX P x) fd).run :=
  w1_pure hg fun fx hf e rd t s k r h => by
    rcases onBool_inv h with ⟨h1, h⟩ | ⟨h1, h⟩
    · exact ⟨.val (.bool false), by simp only [pureOp, hop, hf t, h1, notB], h⟩
    · exact ⟨.val (.bool true), by simp only [pureOp, hop, hf t, h1, notB], h⟩
theorem kNew_ok {o : Oper} {fd : DF} {g : OK} {ty : TypeId} {z : Value} (hop : o.op = .alloc ty) (hz : zeroT P ty = some z) : PureOk P o fd (kNew g z ty fd).run := by
  intro e rd t s k r h
  simp only [kNew, OK.run, newK_eq] at h
  exact ⟨.new (.row (rowOf (cellsV z)) (List.length (cellsV z)) ty false false) .ptr, by simp only [pureOp, hop, hz], h⟩
theorem kBox_ok {o : Oper} {fd : DF} {g : OK} {x : Operand} {ty : TypeId} (hop : o.op = .box ty x) (hg : PureOk P o fd g.run) : PureOk P o fd (kBox ty g (cX P x) fd).run :=
  w1_pure hg fun fx hf e rd t s k r h => by
    rw [newK_eq] at h
    exact ⟨.new (.row (rowOf (cellsV (fx t))) (List.length (cellsV (fx t))) ty false false) .ptr, by simp only [pureOp, hop, hf t], h⟩
theorem outK_inv {e : Env} {t : Tri Value} {fd : DF} {k : KN} {c : R} {r : COut} (h : outK e t fd k c = some r) : ∃ c', c = some c' ∧ (match c' with | ⟨.ret v, s'⟩ => k (fd t v) s' | ⟨.panic v, s'⟩ => e.pan v t s') = some r := by
  obtain ⟨c', h1, h2⟩ := onSome_inv h
  refine ⟨c', h1, ?_⟩
  obtain ⟨en, s'⟩ := c'
  cases en <;> exact h2
theorem kCall_ok {o : Oper} {fd : DF} {g : OK} {c : Call} {f : FuncId} (hop : o.op = .call c) (hc : c.callee = .value (.func f)) (hg : EffOk P o fd g.run) : EffOk P o fd (kCall g f (cArgs P c.args.toList) fd).run := by
  unfold kCall
  split
  · rename_i fa hfa
    intro e rd t s k r h
    obtain ⟨c', h1, h2⟩ := outK_inv h
    refine ⟨c', ?_, h2⟩
    simp only [effOp, hop, hc, opv, cArgs_ok hfa t, invF]
    rw [← h1]
    simp
  · exact hg
theorem kPick_ok {o : Oper} {fd : DF} {g : OK} {c a b : Operand} (hop : o.op = .pick c a b) (hg : PureOk P o fd g.run) : PureOk P o fd (kPick g (cX P c) (cX P a) (cX P b) fd).run := by
  unfold kPick
  split
  · rename_i fc fa fb hc ha hb
    intro e rd t s k r h
    rcases onBool_inv h with ⟨h1, h⟩ | ⟨h1, h⟩
    · exact ⟨.val (fa t), by simp only [pureOp, hop, cX_ok hc t, cX_ok ha t, h1], h⟩
    · exact ⟨.val (fb t), by simp only [pureOp, hop, cX_ok hc t, cX_ok hb t, h1], h⟩
  · exact hg
theorem kStoreN_ok {o : Oper} {fd : DF} {g : OK} {x y : Operand} {ty : TypeId} {n : Nat} (hop : o.op = .store ty x y) (hk : sizeT P ty = some n) (hg : EffOk P o fd g.run) : EffOk P o fd (kStoreN n g (cX P x) (cX P y) fd).run :=
  w2_eff hg fun f g' hf hg' e rd t s k r h => by
    obtain ⟨a, h1, h⟩ := onPtr_inv h
    obtain ⟨b, i, rfl, h⟩ := onAddr_inv h
    obtain ⟨vs, h0, h⟩ := onAgg_inv h
    obtain ⟨hl, h⟩ := ifB_inv' h
    obtain ⟨c2, h⟩ := ifB_inv' h
    obtain ⟨cs, m, el, opn, fz, h2, h⟩ := onRow_inv h
    obtain ⟨h3, h⟩ := ifB_inv' h
    rw [putK_eq] at h
    refine ⟨⟨.ret undef, s.put b (.row (setCells vs.toList i cs) m el opn fz)⟩, ?_, h⟩
    have e2 : storeA s ⟨b, i, none⟩ vs.toList = some (s.put b (.row (setCells vs.toList i cs) m el opn fz)) := by
      unfold storeA
      simp only [h2, c2]
      rw [Nat.eq_of_beq_eq_true hl, h3]
    simp only [effOp, hop, hf t, hg' t, h1, h0, hk, cellsV, hl, e2]
theorem kNext_ok {o : Oper} {fd : DF} {g : OK} {x : Operand} (hop : o.op = .next x true) (hg : EffOk P o fd g.run) : EffOk P o fd (kNext g (cX P x) fd).run := by
  unfold kNext w1
  split
  · rename_i f hf
    intro e rd t s k r h
    obtain ⟨a, h1, h⟩ := onPtr_inv h
    obtain ⟨b, i, rfl, h⟩ := onAddr_inv h
    obtain ⟨h0, hA⟩ := ifB_inv' h
    obtain ⟨bs, pos, h2, hB⟩ := onIter_inv hA
    clear h hA
    obtain rfl : i = 0 := Nat.eq_of_beq_eq_true h0
    rcases ifB_inv hB with ⟨h3, h⟩ | ⟨h3, h⟩
    · obtain ⟨c, h4, h⟩ := onSome_inv h
      rw [byteT_get] at h4
      obtain ⟨h5, h⟩ := ifB_inv' h
      rw [forceN_eq, forceN_eq, putK_eq] at h
      exact ⟨⟨.ret (.tuple ⟨[.bool true, .int .i64 (.ofNat pos), .int .i32 (.ofNat c.toNat)]⟩), s.put b (.iter bs (Nat.add pos 1))⟩, by simp only [effOp, hop, cX_ok hf t, h1, h2, h3, h4, h5], h⟩
    · exact ⟨⟨.ret (.tuple ⟨[.bool false]⟩), s⟩, by simp only [effOp, hop, cX_ok hf t, h1, h2, h3], h⟩
  · exact hg
theorem parts_ok {place : Nat → Option (Nat × Nat)} {t : Tri Value} : ∀ (l : List (Nat × Operand)) (z : List Value) (k : List Value → R) (r : COut), runParts t (cParts P place l) z k = some r → ∃ l', partsF (opv P t) place l z = some l' ∧ k l' = some r := by
  intro l
  induction l with
  | nil => intro z k r h; exact ⟨z, rfl, h⟩
  | cons x l ih =>
    obtain ⟨i, x⟩ := x
    intro z k r h
    simp only [cParts] at h
    split at h
    · rename_i f off sz hf hp
      have h : ifB (Nat.beq (List.length (cellsV (f t))) (sz + 1)) (onSome (overL off (cellsV (f t)) z) fun l' => runParts t (cParts P place l) l' k) none = some r := h
      obtain ⟨h1, h⟩ := ifB_inv' h
      obtain ⟨z', h2, h⟩ := onSome_inv h
      obtain ⟨l', h3, h4⟩ := ih z' k r h
      exact ⟨l', by simp only [partsF, cX_ok hf t, hp, h1, h2, h3], h4⟩
    · cases h
theorem kBuild_st {o : Oper} {fd : DF} {ty : TypeId} {z : Value} {fs : Array Field} {parts : Array (Nat × Operand)} (hop : o.op = .build ty parts) (hz : zeroT P ty = some z) (hu : P.underlying ty = some (.struct fs)) (hs : sizesOk P fs.toList = true) : PureOk P o fd (kBuild (cParts P (placeF P fs.toList) parts.toList) (cellsV z) fd).run := by
  intro e rd t s k r h
  obtain ⟨l', h1, h2⟩ := parts_ok _ _ _ _ h
  exact ⟨.val (.agg ⟨l'⟩), by simp only [pureOp, hop, hz, hu, hs, h1], h2⟩
theorem kBuild_arr {o : Oper} {fd : DF} {ty : TypeId} {z : Value} {n sz : Nat} {el : TypeId} {parts : Array (Nat × Operand)} (hop : o.op = .build ty parts) (hz : zeroT P ty = some z) (hu : P.underlying ty = some (.array n el)) (hs : sizeT P el = some sz) : PureOk P o fd (kBuild (cParts P (fun i => some (Nat.mul i sz, sz)) parts.toList) (cellsV z) fd).run := by
  intro e rd t s k r h
  obtain ⟨l', h1, h2⟩ := parts_ok _ _ _ _ h
  exact ⟨.val (.agg ⟨l'⟩), by simp only [pureOp, hop, hz, hu, hs, h1], h2⟩
theorem kBuildSlice_ok {o : Oper} {fd : DF} {ty : TypeId} {len sz : Nat} {z : List Value} {el : TypeId} {parts : Array (Nat × Operand)} (hop : o.op = .buildSlice ty len parts) (hu : P.underlying ty = some (.slice el)) (hz : elemZ P el = some (sz, z)) (hb : Nat.ble (Nat.mul len sz) 100000 = true) : PureOk P o fd (kBuildSlice (cParts P (fun i => some (Nat.mul i sz, sz)) parts.toList) (repL len z) el len fd).run := by
  intro e rd t s k r h
  obtain ⟨l', h1, h2⟩ := parts_ok _ _ _ _ h
  rw [newK_eq] at h2
  exact ⟨.new (.row (rowOf l') (List.length l') el false false) (.slice len len), by simp only [pureOp, hop, hz, hu, hb, h1], h2⟩
theorem kCallV_ok {o : Oper} {fd : DF} {g : OK} {c : Call} {x : Operand} (hop : o.op = .call c) (hc : c.callee = .value x) (hg : EffOk P o fd g.run) : EffOk P o fd (kCallV P g (cX P x) (cArgs P c.args.toList) fd).run := by
  unfold kCallV
  split
  · rename_i fx fa hfx hfa
    intro e rd t s k r h
    obtain ⟨c', h1, h2⟩ := outK_inv h
    exact ⟨c', by simp only [effOp, hop, hc, cX_ok hfx t, cArgs_ok hfa t, h1], h2⟩
  · exact hg
theorem kAppend_ok {o : Oper} {fd : DF} {g : OK} {c : Call} {x y : Operand} {ty t2 : TypeId} {d : TypeDesc} (hop : o.op = .call c) (hc : c.callee = .builtin .append) (ht : c.argTypes.toList = [ty, t2]) (ha : c.args.toList = [x, y]) (hu : P.underlying t2 = some d) (hd : ∀ k, d ≠ .int k) (hg : EffOk P o fd g.run) : EffOk P o fd (kAppend P ty g (cX P x) (cX P y) fd).run :=
  w2_eff hg fun fx fy hf hf' e rd t s k r h => by
    obtain ⟨p, h1, h⟩ := onSome_inv h
    obtain ⟨v, s'⟩ := p
    refine ⟨⟨.ret v, s'⟩, ?_, h⟩
    simp only [effOp, hop, hc, ht, ha, opvs, hf t, hf' t, hu, h1]
    try (cases d <;> first | exact absurd rfl (hd _) | rfl)
theorem kIntOp_ok {o : Oper} {fd : DF} {g : OK} {x y : Operand} {op : BinOp} {ty : TypeId} {q : TypeId} (hop : o.op = .binOp op ty x y q) (hs : isShift op = false) (hg : PureOk P o fd g.run) : PureOk P o fd (kIntOp op g (cX P x) (cX P y) fd).run :=
  w2_pure hg fun fx fy hf hf' e rd t s k r h => by
    obtain ⟨ka, m, h1, h⟩ := onInt_inv h
    obtain ⟨kb, n, h2, h⟩ := onInt_inv h
    obtain ⟨h3, h⟩ := ifB_inv' h
    obtain ⟨v, h4, h⟩ := onSome_inv h
    refine ⟨.val v, ?_, h⟩
    simp only [pureOp, hop, hf t, hf' t, h1, h2, binF]
    cases op <;> first | (cases hs; done) | simp only [h3, h4]
theorem kStrEq_ok {o : Oper} {fd : DF} {g : OK} {x y : Operand} {op : BinOp} {ty : TypeId} {q : TypeId} {want : Bool} (hop : o.op = .binOp op ty x y q) (hw : (op = .eql ∧ want = true) ∨ (op = .neq ∧ want = false)) (hg : PureOk P o fd g.run) : PureOk P o fd (kStrEq want g (cX P x) (cX P y) fd).run :=
  w2_pure hg fun fx fy hf hf' e rd t s k r h => by
    obtain ⟨a, h1, h⟩ := onStr_inv h
    obtain ⟨b, h2, h⟩ := onStr_inv h
    rcases hw with ⟨rfl, rfl⟩ | ⟨rfl, rfl⟩
    · rcases ifB_inv h with ⟨h3, h⟩ | ⟨h3, h⟩
      · exact ⟨.val (.bool true), by simp only [pureOp, hop, hf t, hf' t, h1, h2, binF, h3], h⟩
      · exact ⟨.val (.bool false), by simp only [pureOp, hop, hf t, hf' t, h1, h2, binF, h3], h⟩
    · rcases ifB_inv h with ⟨h3, h⟩ | ⟨h3, h⟩
      · exact ⟨.val (.bool false), by simp only [pureOp, hop, hf t, hf' t, h1, h2, binF, h3, notB], h⟩
      · exact ⟨.val (.bool true), by simp only [pureOp, hop, hf t, hf' t, h1, h2, binF, h3, notB], h⟩
theorem kIface_ok {o : Oper} {fd : DF} {g : OK} {x : Operand} {ty : TypeId} {d : TypeDesc} (hop : o.op = .makeInterface ty x) (hu : P.underlying ty = some d) (hd : ∀ m, d ≠ .interface m) (hg : PureOk P o fd g.run) : PureOk P o fd (kIface ty g (cX P x) fd).run :=
  w1_pure hg fun fx hf e rd t s k r h => by
    refine ⟨.val (.iface ty (fx t)), ?_, h⟩
    simp only [pureOp, hop, hf t, hu]
    try (cases d <;> first | exact absurd rfl (hd _) | rfl)
end
end Go.Ev

/- Regions and code as closures are sound. -/
namespace Go.Ev
section
variable {P : Program} {nt : Nat}
theorem cPure_ok (o : Oper) (fd : DF) : PureOk P o fd (cPure P o fd).run := by
  have hg := genPure_ok (P := P) o fd
  unfold cPure
  simp only
  split
  · rename_i x hop; exact kMove_ok (.inl hop) hg
  · rename_i x hop; exact kMove_ok (.inr hop) hg
  · rename_i ty hop
    split
    · rename_i z hz; exact kNew_ok hop hz
    · exact hg
  · rename_i ty x hop; exact kBox_ok hop hg
  · rename_i ty x hop
    split
    · rename_i hk; exact kLoad1_ok hop hk hg
    · rename_i m hk; exact kLoadN_ok hop hk hg
    · exact hg
  · rename_i x hop; exact kNilCheck_ok hop hg
  · rename_i op ty x y q hop
    split
    · split
      · exact kArith_ok hop (fun _ _ _ => rfl) ⟨by simp, by simp⟩ hg
      · exact kArith_ok hop (fun _ _ _ => rfl) ⟨by simp, by simp⟩ hg
      · exact kArith_ok hop (fun _ _ _ => rfl) ⟨by simp, by simp⟩ hg
      · exact kCmp_ok hop (fun _ _ _ => rfl) ⟨by simp, by simp⟩ hg
      · exact kCmp_ok hop (fun _ m n => by simp only [intOpF, neI]; cases eqI m n <;> rfl) ⟨by simp, by simp⟩ hg
      · exact kCmp_ok hop (fun _ _ _ => rfl) ⟨by simp, by simp⟩ hg
      · exact kCmp_ok hop (fun _ _ _ => rfl) ⟨by simp, by simp⟩ hg
      · exact kCmp_ok hop (fun _ m n => by simp only [intOpF, leI]; cases ltI n m <;> rfl) ⟨by simp, by simp⟩ hg
      · exact kCmp_ok hop (fun _ m n => by simp only [intOpF, geI]; cases ltI m n <;> rfl) ⟨by simp, by simp⟩ hg
      · split
        · exact hg
        · rename_i hsh; exact kIntOp_ok hop hsh hg
    · split
      · exact kStrEq_ok hop (.inl ⟨rfl, rfl⟩) hg
      · exact kStrEq_ok hop (.inr ⟨rfl, rfl⟩) hg
      · exact hg
    · exact hg
  · rename_i c a b hop; exact kPick_ok hop hg
  · rename_i ty parts hop
    split
    · rename_i z fs hz hu
      split
      · rename_i hs; exact kBuild_st hop hz hu hs
      · exact hg
    · rename_i z n el hz hu
      split
      · rename_i sz hs; exact kBuild_arr hop hz hu hs
      · exact hg
    · exact hg
  · rename_i ty len parts hop
    split
    · rename_i el hu
      split
      · rename_i sz z hz
        split
        · rename_i hb; exact kBuildSlice_ok hop hu hz hb
        · exact hg
      · exact hg
    · exact hg
  · rename_i ty x hop
    split
    · exact hg
    · rename_i d hd hu; exact kIface_ok hop hu (fun m he => hd m he) hg
    · exact hg
  · rename_i op q x hop
    split
    · exact kNot_ok hop hg
    · exact hg
  · rename_i src dst x hop
    split
    · rename_i k0 kd h0 h1; exact kConv_ok hop h0 h1 hg
    · exact hg
  · rename_i c hop
    split
    · rename_i hc
      split
      · rename_i x t ha ht
        split
        · rename_i hu; exact kLenStr_ok hop hc ha ht hu hg
        · rename_i el hu; exact kLenSl_ok hop hc ha ht hu hg
        · exact hg
      · exact hg
    · exact hg
  · rename_i ty x f hop
    split
    · rename_i fs hu
      split
      · rename_i fl hn
        split
        · rename_i m hs; exact kFieldAddr_ok hop hu hn hs hg
        · exact hg
      · exact hg
    · exact hg
  · rename_i ty x i hop
    split
    · rename_i el hu
      split
      · rename_i sz hs; exact kIndexAddrS_ok hop hu hs hg
      · exact hg
    · exact hg
  · rename_i ty x i hop
    split
    · rename_i hu; exact kIndexStr_ok hop hu hg
    · exact hg
  · rename_i x i hop; exact kExtract_ok hop hg
  · exact hg
theorem cEff_ok (o : Oper) (fd : DF) : EffOk P o fd (cEff P o fd).run := by
  have hg := genEff_ok (P := P) o fd
  unfold cEff
  split
  · rename_i ty a x hop
    split
    · rename_i hs; exact kStore1_ok hop hs hg
    · rename_i n hn hs; exact kStoreN_ok hop hs hg
    · exact hg
  · rename_i i hop; exact kNext_ok hop hg
  · rename_i c hop
    split
    · rename_i f hc
      split
      · exact kCall_ok hop hc hg
      · exact kCallV_ok hop hc hg
    · rename_i hc
      split
      · rename_i ty t2 x y ht ha
        split
        · exact hg
        · rename_i d hd hu; exact kAppend_ok hop hc ht ha hu (fun m he => hd m he) hg
        · exact hg
      · exact hg
    · exact hg
  · exact hg
theorem cRaw_ok {ops : List Oper} {o : Oper} {fd : DF} (hd : cD nt o.dst = .ok fd) : RawOk P nt ops o (cRaw P o fd).run := by
  unfold cRaw
  split
  · rename_i he; exact (cPure_ok o fd).op hd he
  · rename_i he; exact (cEff_ok o fd).op hd he
theorem cOp_ok (ops : List Oper) (o : Oper) : OpOk P nt ops o (cOp P nt ops o).run := by
  unfold cOp
  split
  · rename_i fd hd
    have hraw := cRaw_ok (P := P) (ops := ops) hd
    split
    · rename_i hgd
      intro e rd t s k r h
      exact hraw e rd t s k r h (by unfold wantF; rw [hgd])
    · rename_i j want hgd
      split
      · rename_i oj hj
        split
        · rename_i d hdj
          split
          · rename_i fx f hfx hf
            rw [hf] at hraw
            intro e rd t s k r h
            have hv : fx t = (match t.get d with | some v => v | none => undef) := by
              have := cX_ok hfx t
              simp only [opv] at this
              cases hg : t.get d with
              | none => rw [hg] at this; exact (Option.some.inj this).symm
              | some v => rw [hg] at this; exact (Option.some.inj this).symm
            have hskip : wantF ops t o = false → k (fd t undef) s = some r → SR.cont e k (stepR P e.call nt ops rd t s o) = some r := by
              intro hw h; simp only [stepR, hw, cD_ok hd, SR.cont]; exact h
            have hbool : ∀ b, fx t = .bool b → wantF ops t o = eqB b want := by
              intro b hb
              rw [hv] at hb
              unfold wantF
              simp only [hgd, hj, hdj, lkB]
              cases hg : t.get d with
              | none => rw [hg] at hb; cases hb
              | some v => rw [hg] at hb; simp only at hb; subst hb; rfl
            have hno : (∀ b, fx t ≠ .bool b) → wantF ops t o = false := by
              intro hb
              rw [hv] at hb
              unfold wantF
              simp only [hgd, hj, hdj, lkB]
              cases hg : t.get d with
              | none => rfl
              | some v =>
                rw [hg] at hb
                simp only at hb
                cases v <;> first | exact absurd rfl (hb _) | rfl
            have h : kGuard want fx f fd e rd t s k = some r := h
            cases want with
            | true =>
              rcases onBool3_inv h with ⟨h1, h⟩ | ⟨h1, h⟩ | ⟨h1, h⟩
              · exact hraw e rd t s k r h (by rw [hbool _ h1]; rfl)
              · exact hskip (by rw [hbool _ h1]; rfl) h
              · exact hskip (hno h1) h
            | false =>
              rcases onBool3_inv h with ⟨h1, h⟩ | ⟨h1, h⟩ | ⟨h1, h⟩
              · exact hskip (by rw [hbool _ h1]; rfl) h
              · exact hraw e rd t s k r h (by rw [hbool _ h1]; rfl)
              · exact hskip (hno h1) h
          · exact genOp_ok ops o
        · exact genOp_ok ops o
      · exact genOp_ok ops o
  · exact genOp_ok ops o

/- ---- regions in the order of the text ---- -/
/-- How code ends, and where it goes on. -/
def contS (e : Env) (k : KN) : Steps' → R
  | .go t d s => match d with | [] => k t s | _ :: _ => none
  | .boom v t d s => match d with | [] => e.pan v t s | _ :: _ => none
theorem opF_step {call : CallF} {ops : List Oper} {t : Tri Value} {s : St} {o : Oper} : (∀ t' s', stepR P call nt ops (rdS s) t s o = .go t' s' → opF P call nt ops t s o = some (.go t' s')) ∧ (∀ v t' s', stepR P call nt ops (rdS s) t s o = .boom v t' s' → opF P call nt ops t s o = some (.boom v t' s')) := by
  unfold stepR opF
  constructor
  · intro t' s' h
    split at h
    · split at h
      · cases h; simp only [*]
      · cases h
    · split at h
      · split at h
        · split at h
          · rename_i po hpo _ v s1 hdo
            split at h
            · cases h; simp only [*]
            · cases h
        · cases h
      · split at h
        · split at h
          · cases h; simp only [*]
          · cases h
        · cases h
        · cases h
  · intro v t' s' h
    split at h
    · split at h <;> cases h
    · split at h
      · split at h
        · split at h
          · split at h <;> cases h
        · cases h
      · split at h
        · split at h <;> cases h
        · cases h; simp only [*]
        · cases h
theorem cOps_ok (ops : List Oper) : ∀ (l : List Oper) (e : Env) (k : KN) (t : Tri Value) (s : St) (r : COut), runOps (cOps P nt ops l) e k t s = some r →
    ∃ o, opsF P e.call nt ops l t [] s = some o ∧ contS e k o = some r := by
  intro l
  induction l with
  | nil => intro e k t s r h; exact ⟨_, rfl, h⟩
  | cons o l ih =>
    intro e k t s r h
    have hop := cOp_ok (P := P) (nt := nt) ops o
    cases hc : cOp P nt ops o with
    | mk f =>
      rw [hc] at hop
      have hl : cOps P nt ops (o :: l) = .cons f (cOps P nt ops l) := by simp only [cOps, hc]
      rw [hl] at h
      have h : f e (rdS s) t s (runOps (cOps P nt ops l) e k) = some r := h
      have h := hop _ _ _ _ _ _ h
      cases hs : stepR P e.call nt ops (rdS s) t s o with
      | go t' s' =>
        rw [hs] at h
        obtain ⟨o', h1, h2⟩ := ih e k t' s' r h
        exact ⟨o', by simp only [opsF, opF_step.1 t' s' hs, h1], h2⟩
      | boom v t' s' =>
        rw [hs] at h
        exact ⟨.boom v t' [] s', by simp only [opsF, opF_step.2 v t' s' hs], h⟩
      | no => rw [hs] at h; cases h

/- ---- regions that draw ---- -/
theorem stepR_seq {call : CallF} {ops : List Oper} {an effs : List Nat} {i m : Nat} {l clks : List Nat} {t t' : Tri Value} {s s' : St} {o : Oper} (h1 : nth ops i = some o) (h2 : nth an i = some m) :
    (isEff o = true → stepR P call nt ops (rdS s) t s o = .go t' s' → seqF P call nt ops an effs (i :: l) clks t s = seqF P call nt ops an effs l (clks ++ [s'.n]) t' s') ∧
    (isEff o = false → ∀ lim, nth clks (cntE m effs) = some lim → stepR P call nt ops (rdL s lim) t s o = .go t' s' → seqF P call nt ops an effs (i :: l) clks t s = seqF P call nt ops an effs l clks t' s') := by
  constructor
  · intro he h
    unfold stepR at h
    simp only [seqF, h1, h2]
    split at h
    · rename_i hw
      split at h
      · rename_i t1 ht1; cases h; simp only [hw, ht1, clkE, he]
      · cases h
    · rename_i hw
      rw [he] at h
      simp only at h
      split at h
      · rename_i v s1 heff
        split at h
        · rename_i t1 ht1; cases h; simp only [hw, he, heff, ht1]
        · cases h
      · cases h
      · cases h
  · intro he lim hl h
    unfold stepR at h
    simp only [seqF, h1, h2]
    split at h
    · rename_i hw
      split at h
      · rename_i t1 ht1; cases h; simp only [hw, ht1, clkE, he]
      · cases h
    · rename_i hw
      rw [he] at h
      simp only at h
      split at h
      · rename_i po hpo
        split at h
        · rename_i t1 ht1
          cases h
          simp only [hw, he, hl, hpo, ht1]
        · cases h
      · cases h
theorem cSeq_ok (ops : List Oper) (an effs : List Nat) : ∀ (l : List Nat) (d : DrawK), cSeq P nt ops an effs l = some d → ∀ (e : Env) (k : KN) (clks : List Nat) (t : Tri Value) (s : St) (r : COut), (∀ v t s, e.pan v t s = none) → runSeq d e k clks t s = some r →
    ∃ t' s', seqF P e.call nt ops an effs l clks t s = some (t', s') ∧ k t' s' = some r := by
  intro l
  induction l with
  | nil => intro d hd e k clks t s r _ h; simp only [cSeq] at hd; cases hd; exact ⟨t, s, rfl, h⟩
  | cons i l ih =>
    intro d hd e k clks t s r hp h
    simp only [cSeq] at hd
    split at hd
    · rename_i o m h1 h2
      have hop := cOp_ok (P := P) (nt := nt) ops o
      split at hd
      · rename_i f d' hf hd'
        rw [hf] at hop
        cases hd
        cases he : isEff o with
        | false =>
          rw [he] at h
          have h : onSome (nth clks (cntE m effs)) (fun lim => f e (rdL s lim) t s (runSeq d' e k clks)) = some r := h
          obtain ⟨lim, hl, h⟩ := onSome_inv h
          have h := hop _ _ _ _ _ _ h
          cases hs : stepR P e.call nt ops (rdL s lim) t s o with
          | go t' s' =>
            rw [hs] at h
            obtain ⟨t2, s2, h3, h4⟩ := ih d' hd' e k clks t' s' r hp h
            exact ⟨t2, s2, by rw [(stepR_seq h1 h2).2 he lim hl hs]; exact h3, h4⟩
          | boom v t' s' => rw [hs] at h; rw [show SR.cont e _ (.boom v t' s') = e.pan v t' s' from rfl, hp] at h; cases h
          | no => rw [hs] at h; cases h
        | true =>
          rw [he] at h
          have h : f e (rdS s) t s (fun t' s' => snocN clks s'.n fun clks' => runSeq d' e k clks' t' s') = some r := h
          have h := hop _ _ _ _ _ _ h
          cases hs : stepR P e.call nt ops (rdS s) t s o with
          | go t' s' =>
            rw [hs] at h
            have h : runSeq d' e k (clks ++ [s'.n]) t' s' = some r := h
            obtain ⟨t2, s2, h3, h4⟩ := ih d' hd' e k _ t' s' r hp h
            exact ⟨t2, s2, by rw [(stepR_seq h1 h2).1 he hs]; exact h3, h4⟩
          | boom v t' s' => rw [hs] at h; rw [show SR.cont e _ (.boom v t' s') = e.pan v t' s' from rfl, hp] at h; cases h
          | no => rw [hs] at h; cases h
      · cases hd
    · cases hd
theorem noPan_call (e : Env) : (noPan e).call = e.call := by cases e; rfl
theorem noPan_pan (e : Env) (v : Value) (t : Tri Value) (s : St) : (noPan e).pan v t s = none := by cases e; rfl
end
end Go.Ev

/- Code as closures is sound. -/
namespace Go.Ev
section
variable {P : Program} {nt : Nat}
def contO (e : Env) (k : KN) : Out → R
  | ⟨x, t, d, s⟩ => match d with
    | [] => match x with
      | .normal => k t s
      | .exit id => e.ex id t s
      | .ret => e.ret t s
      | .goto l => e.goto l t s
      | .panic v => e.pan v t s
    | _ :: _ => none
def CdOk (P : Program) (nt : Nat) (c : Code) (f : CF) : Prop :=
  ∀ e t s k r, f e t s k = some r → ∃ N o, (∀ n, N ≤ n → codeF P e.call none nt n c t [] s = some o) ∧ contO e k o = some r
theorem ckNo_ok (c : Code) : CdOk P nt c ckNo.run := by intro e t s k r h; cases h
theorem codeOk_one {c : Code} {f : CF} (h : ∀ e t s k r, f e t s k = some r → ∃ o, (∀ n, codeF P e.call none nt (n + 1) c t [] s = some o) ∧ contO e k o = some r) : CdOk P nt c f := by
  intro e t s k r hr
  obtain ⟨o, h1, h2⟩ := h e t s k r hr
  refine ⟨1, o, fun n hn => ?_, h2⟩
  obtain ⟨m, rfl⟩ : ∃ m, n = m + 1 := ⟨n - 1, by omega⟩
  exact h1 m
theorem contS_out {e : Env} {k : KN} {o : Steps'} {r : COut} (h : contS e k o = some r) : ∃ out, (∀ (x : Option Steps'), x = some o → (match x with | some (.go t' d' s') => (match okD none d' with | true => some (⟨.normal, t', d', s'⟩ : Out) | false => none) | some (.boom v t' d' s') => (match okD none d' with | true => some ⟨.panic v, t', d', s'⟩ | false => none) | none => none) = some out) ∧ contO e k out = some r := by
  cases o with
  | go t d s =>
    cases d with
    | nil => exact ⟨⟨.normal, t, [], s⟩, fun x hx => by subst hx; rfl, h⟩
    | cons a d => cases h
  | boom v t d s =>
    cases d with
    | nil => exact ⟨⟨.panic v, t, [], s⟩, fun x hx => by subst hx; rfl, h⟩
    | cons a d => cases h
theorem cDraw_ok (id : Nat) (ops : Array Oper) : CdOk P nt (.region id ops true) (cDraw P nt ops.toList).run := by
  refine codeOk_one fun e t s k r h => ?_
  have main : ∀ t' d' s' , drawF P e.call nt ops.toList t [] s = some (.go t' d' s') → contS e k (.go t' d' s') = some r → ∃ o, (∀ n, codeF P e.call none nt (n + 1) (.region id ops true) t [] s = some o) ∧ contO e k o = some r := by
    intro t' d' s' h1 h2
    obtain ⟨out, h3, h4⟩ := contS_out h2
    exact ⟨out, fun n => by simp only [codeF]; exact h3 _ h1, h4⟩
  unfold cDraw at h
  split at h
  · cases h
  · rename_i pl hpl
    split at h
    · cases h
    · rename_i d hd
      split at h
      · rename_i ht
        have h : runSeq d (noPan e) k [s.n] t s = some r := h
        obtain ⟨t', s', h1, h2⟩ := cSeq_ok _ _ _ _ _ hd _ _ _ _ _ _ (noPan_pan e) h
        rw [noPan_call] at h1
        refine main t' [] s' ?_ h2
        simp only [drawF, hpl, h1, ht, tailF]
      · rename_i a l ht
        have h : runSeq d (noPan e) _ [s.n] t s = some r := h
        obtain ⟨t', s', h1, h2⟩ := cSeq_ok _ _ _ _ _ hd _ _ _ _ _ _ (noPan_pan e) h
        rw [noPan_call] at h1
        obtain ⟨p, h3, h4⟩ := onSome_inv h2
        obtain ⟨t2, s2⟩ := p
        refine main t2 [] s2 ?_ h4
        simp only [drawF, hpl, h1, ht, h3]
theorem loopR_ok {body : Code} {f : CF} (hb : CdOk P nt body f) (e : Env) (k : KN) (r : COut) : ∀ m t s, loopR f e m t s = some r → ∃ N o, (∀ n, N ≤ n → codeF P e.call none nt n (.loop body) t [] s = some o) ∧ contO e k o = some r := by
  intro m
  induction m with
  | zero => intro t s h; cases h
  | succ m ih =>
    intro t s h
    have h : f e t s (loopR f e m) = some r := h
    obtain ⟨N1, o1, h1, h2⟩ := hb _ _ _ _ _ h
    have other : o1.e ≠ .normal → contO e k o1 = some r → ∃ N o, (∀ n, N ≤ n → codeF P e.call none nt n (.loop body) t [] s = some o) ∧ contO e k o = some r := by
      intro hne hc
      refine ⟨N1 + 1, o1, fun n hn => ?_, hc⟩
      obtain ⟨m', rfl⟩ : ∃ m', n = m' + 1 := ⟨n - 1, by omega⟩
      simp only [codeF, h1 m' (by omega)]
      split
      · rename_i heq; cases heq; exact absurd rfl hne
      · rfl
    obtain ⟨x, t1, d1, s1⟩ := o1
    cases d1 with
    | cons a d => cases h2
    | nil =>
      cases x with
      | normal =>
        obtain ⟨N2, o2, h3, h4⟩ := ih t1 s1 h2
        refine ⟨max N1 N2 + 1, o2, fun n hn => ?_, h4⟩
        obtain ⟨m', rfl⟩ : ∃ m', n = m' + 1 := ⟨n - 1, by omega⟩
        simp only [codeF, h1 m' (by omega)]
        exact h3 m' (by omega)
      | exit id => exact other (by simp) h2
      | ret => exact other (by simp) h2
      | goto l => exact other (by simp) h2
      | panic v => exact other (by simp) h2
theorem cLab_ok {cf : Code → Cl CF} {whole : Code} (hcf : ∀ c, CdOk P nt c (cf c).run) {k : CF → R} {l : Nat} {r : COut} : ∀ ls, LabK.find l none k (cLab cf whole ls) = some r → ∃ rest f, findLabel whole l = some rest ∧ CdOk P nt rest f ∧ k f = some r := by
  intro ls
  induction ls with
  | nil => intro h; cases h
  | cons a ls ih =>
    intro h
    simp only [cLab] at h
    split at h
    · rename_i rest hr
      have := hcf rest
      cases hc : cf rest with
      | mk f =>
        rw [hc] at h this
        have h' : @Bool.rec (fun _ => R) (LabK.find l none k (cLab cf whole ls)) (k f) (Nat.beq l a) = some r := h
        clear h
        cases hb : Nat.beq l a with
        | true =>
          rw [hb] at h'
          have e : l = a := Nat.eq_of_beq_eq_true hb
          subst e
          exact ⟨rest, f, hr, this, h'⟩
        | false => rw [hb] at h'; exact ih h'
    · exact ih h
theorem scopeR_ok {whole : Code} {tab : LabK} (htab : ∀ (k : CF → R) (l : Nat) (r : COut), LabK.find l none k tab = some r → ∃ rest f, findLabel whole l = some rest ∧ CdOk P nt rest f ∧ k f = some r) (e : Env) (k : KN) (r : COut) :
    ∀ m c f t s, CdOk P nt c f → scopeR tab e k m f t s = some r → ∃ N o, (∀ n, N ≤ n → scopeF P e.call none nt whole n c t [] s = some o) ∧ contO e k o = some r := by
  intro m
  induction m with
  | zero => intro c f t s _ h; cases h
  | succ m ih =>
    intro c f t s hf h
    have h : f (withGo e fun l t s => LabK.find l none (fun f' => scopeR tab e k m f' t s) tab) t s k = some r := h
    have hcall : ∀ g, (withGo e g).call = e.call := by intro g; cases e; rfl
    obtain ⟨N1, o1, h1, h2⟩ := hf _ _ _ _ _ h
    rw [hcall] at h1
    have other : (∀ l, o1.e ≠ .goto l) → contO e k o1 = some r → ∃ N o, (∀ n, N ≤ n → scopeF P e.call none nt whole n c t [] s = some o) ∧ contO e k o = some r := by
      intro hne hc
      refine ⟨N1 + 1, o1, fun n hn => ?_, hc⟩
      obtain ⟨m', rfl⟩ : ∃ m', n = m' + 1 := ⟨n - 1, by omega⟩
      simp only [scopeF, h1 m' (by omega)]
      split
      · rename_i heq; cases heq; exact absurd rfl (hne _)
      · rfl
    obtain ⟨x, t1, d1, s1⟩ := o1
    cases d1 with
    | cons a d => cases h2
    | nil =>
      cases x with
      | normal => exact other (by simp) h2
      | exit id => exact other (by simp) (by cases e; exact h2)
      | ret => exact other (by simp) (by cases e; exact h2)
      | panic v => exact other (by simp) (by cases e; exact h2)
      | goto l =>
        have h2 : LabK.find l none (fun f' => scopeR tab e k m f' t1 s1) tab = some r := by cases e; exact h2
        obtain ⟨rest, f', h3, h4, h5⟩ := htab _ _ _ h2
        obtain ⟨N2, o2, h6, h7⟩ := ih rest f' t1 s1 h4 h5
        refine ⟨max N1 N2 + 1, o2, fun n hn => ?_, h7⟩
        obtain ⟨m', rfl⟩ : ∃ m', n = m' + 1 := ⟨n - 1, by omega⟩
        simp only [scopeF, h1 m' (by omega), h3]
        exact h6 m' (by omega)
theorem cC_ok (q : Nat) : ∀ (d : Nat) (c : Code), CdOk P nt c (cC P q nt d c).run := by
  intro d
  induction d with
  | zero => intro c; exact ckNo_ok c
  | succ d ih =>
    intro c
    cases c with
    | skip => simp only [cC]; exact codeOk_one fun e t s k r h => ⟨⟨.normal, t, [], s⟩, fun n => by simp only [codeF], h⟩
    | label l => simp only [cC]; exact codeOk_one fun e t s k r h => ⟨⟨.normal, t, [], s⟩, fun n => by simp only [codeF], h⟩
    | exit id => simp only [cC]; exact codeOk_one fun e t s k r h => ⟨⟨.exit id, t, [], s⟩, fun n => by simp only [codeF], h⟩
    | ret => simp only [cC]; exact codeOk_one fun e t s k r h => ⟨⟨.ret, t, [], s⟩, fun n => by simp only [codeF], h⟩
    | goto l => simp only [cC]; exact codeOk_one fun e t s k r h => ⟨⟨.goto l, t, [], s⟩, fun n => by simp only [codeF], h⟩
    | region id ops draw =>
      cases draw with
      | false =>
        simp only [cC]
        refine codeOk_one fun e t s k r h => ?_
        obtain ⟨o, h1, h2⟩ := cOps_ok ops.toList ops.toList e k t s r h
        obtain ⟨out, h3, h4⟩ := contS_out h2
        exact ⟨out, fun n => by simp only [codeF]; exact h3 _ h1, h4⟩
      | true => simp only [cC]; exact cDraw_ok id ops
    | seq a b =>
      have ha := ih a
      have hb := ih b
      simp only [cC]
      cases hca : cC P q nt d a with
      | mk fa =>
        cases hcb : cC P q nt d b with
        | mk fb =>
          rw [hca] at ha; rw [hcb] at hb
          intro e t s k r h
          have h : fa e t s (fun t s => fb e t s k) = some r := h
          obtain ⟨N1, o1, h1, h2⟩ := ha _ _ _ _ _ h
          have other : o1.e ≠ .normal → contO e k o1 = some r → ∃ N o, (∀ n, N ≤ n → codeF P e.call none nt n (.seq a b) t [] s = some o) ∧ contO e k o = some r := by
            intro hne hc
            refine ⟨N1 + 1, o1, fun n hn => ?_, hc⟩
            obtain ⟨m', rfl⟩ : ∃ m', n = m' + 1 := ⟨n - 1, by omega⟩
            simp only [codeF, h1 m' (by omega)]
            split
            · rename_i heq; cases heq; exact absurd rfl hne
            · rfl
          obtain ⟨x, t1, d1, s1⟩ := o1
          cases d1 with
          | cons a d => cases h2
          | nil =>
            cases x with
            | normal =>
              obtain ⟨N2, o2, h3, h4⟩ := hb _ _ _ _ _ h2
              refine ⟨max N1 N2 + 1, o2, fun n hn => ?_, h4⟩
              obtain ⟨m', rfl⟩ : ∃ m', n = m' + 1 := ⟨n - 1, by omega⟩
              simp only [codeF, h1 m' (by omega)]
              exact h3 m' (by omega)
            | exit id => exact other (by simp) h2
            | ret => exact other (by simp) h2
            | goto l => exact other (by simp) h2
            | panic v => exact other (by simp) h2
    | cond x a b =>
      have ha := ih a
      have hb := ih b
      simp only [cC]
      split
      · rename_i fx fa fb hx hca hcb
        rw [hca] at ha; rw [hcb] at hb
        intro e t s k r h
        have ev := cX_ok hx t
        rcases onBool_inv h with ⟨h1, h⟩ | ⟨h1, h⟩
        · obtain ⟨N1, o1, h2, h3⟩ := ha _ _ _ _ _ h
          refine ⟨N1 + 1, o1, fun n hn => ?_, h3⟩
          obtain ⟨m', rfl⟩ : ∃ m', n = m' + 1 := ⟨n - 1, by omega⟩
          simp only [codeF, ev, h1]
          exact h2 m' (by omega)
        · obtain ⟨N1, o1, h2, h3⟩ := hb _ _ _ _ _ h
          refine ⟨N1 + 1, o1, fun n hn => ?_, h3⟩
          obtain ⟨m', rfl⟩ : ∃ m', n = m' + 1 := ⟨n - 1, by omega⟩
          simp only [codeF, ev, h1]
          exact h2 m' (by omega)
      · exact ckNo_ok _
    | block id body =>
      have hb := ih body
      simp only [cC]
      cases hcb : cC P q nt d body with
      | mk f =>
        rw [hcb] at hb
        intro e t s k r h
        have h : f (withEx e id k) t s k = some r := h
        obtain ⟨N1, o1, h1, h2⟩ := hb _ _ _ _ _ h
        have hcall : (withEx e id k).call = e.call := by cases e; rfl
        rw [hcall] at h1
        have other : (∀ j, o1.e ≠ .exit j) → contO e k o1 = some r → ∃ N o, (∀ n, N ≤ n → codeF P e.call none nt n (.block id body) t [] s = some o) ∧ contO e k o = some r := by
          intro hne hc
          refine ⟨N1 + 1, o1, fun n hn => ?_, hc⟩
          obtain ⟨m', rfl⟩ : ∃ m', n = m' + 1 := ⟨n - 1, by omega⟩
          simp only [codeF, h1 m' (by omega)]
          split
          · rename_i heq; cases heq; exact absurd rfl (hne _)
          · rfl
        obtain ⟨x, t1, d1, s1⟩ := o1
        cases d1 with
        | cons a d => cases h2
        | nil =>
          cases x with
          | normal => exact other (by simp) h2
          | ret => exact other (by simp) (by cases e; exact h2)
          | goto l => exact other (by simp) (by cases e; exact h2)
          | panic v => exact other (by simp) (by cases e; exact h2)
          | exit j =>
            have h2 : @Bool.rec (fun _ => KN) (e.ex j) k (Nat.beq j id) t1 s1 = some r := by cases e; exact h2
            cases hb : Nat.beq j id with
            | true =>
              rw [hb] at h2
              refine ⟨N1 + 1, ⟨.normal, t1, [], s1⟩, fun n hn => ?_, h2⟩
              obtain ⟨m', rfl⟩ : ∃ m', n = m' + 1 := ⟨n - 1, by omega⟩
              simp only [codeF, h1 m' (by omega), hb]
            | false =>
              rw [hb] at h2
              refine ⟨N1 + 1, ⟨.exit j, t1, [], s1⟩, fun n hn => ?_, h2⟩
              obtain ⟨m', rfl⟩ : ∃ m', n = m' + 1 := ⟨n - 1, by omega⟩
              simp only [codeF, h1 m' (by omega), hb]
    | loop body =>
      have hb := ih body
      simp only [cC]
      cases hcb : cC P q nt d body with
      | mk f =>
        rw [hcb] at hb
        intro e t s k r h
        exact loopR_ok hb e k r q t s h
    | scope body =>
      have hb := ih body
      simp only [cC]
      cases hcb : cC P q nt d body with
      | mk f =>
        rw [hcb] at hb
        intro e t s k r h
        obtain ⟨N1, o1, h1, h2⟩ := scopeR_ok (fun k l r => cLab_ok ih (labels body)) e k r q body f t s hb h
        refine ⟨N1 + 1, o1, fun n hn => ?_, h2⟩
        obtain ⟨m', rfl⟩ : ∃ m', n = m' + 1 := ⟨n - 1, by omega⟩
        simp only [codeF]
        exact h1 m' (by omega)
    | _ => exact ckNo_ok _
end
end Go.Ev

/- The twin is sound. -/
namespace Go.Ev
section
variable {P : Program} {nt : Nat}
theorem fn_sound (hm : P.follows .mixedOrders = true) (hN : NoCount P) {call : CallF} (hc : CallOk P call) {fuel N : Nat} {f : FuncId} {fn : Func} {code : Code} {args : List Value} {s : St} {c : COut} (hfn : P.funcs[f]? = some fn) (hb : fn.body = some code)
    (e : Ex) (t : Tri Value) (d : List Deferred) (s1 : St) (m : Md) (hcode : codeF P call none (Nat.max fn.ntmps (lenL args)) N code (argsT args) [] s = some ⟨e, t, d, s1⟩)
    (hx : ∀ ρ x, XRel ρ e x → ∃ u, MdRel ρ m u ∧ ∀ R a w, LeavesX P fn a.tmps R a.defers u w → bodyPostX P fn R x a w)
    (hleave : leaveF P call fuel fn t d m s1 = some c) : StLe s c.s ∧ ∀ ρ w args', Rel P ρ (rdS s) w → Fresh ρ s.n c.s.n → LRel ρ args args' → EOk P ρ s w c ((callFunc f ⟨args'⟩).run P w) := by
  obtain ⟨a1, a2⟩ := (code_sound (nt := Nat.max fn.ntmps (lenL args)) (r := none) hm hN hc N).1 _ _ _ _ _ hcode
  obtain ⟨b1, b2⟩ := leaveF_sound (nt := Nat.max fn.ntmps (lenL args)) hm hN hc _ _ _ _ hleave
  simp only at a1 a2
  refine ⟨a1.trans b1, fun ρ w args' hR hF ha => ?_⟩
  have hrun : (callFunc f ⟨args'⟩).run P w = .ok (.enter f ⟨args'⟩) w := by simp [callFunc, hfn, hN f fn hfn, hb]
  rw [hrun]
  show CallsIn Fence.wide 0 P f ⟨args'⟩ w (Post P ρ s w c)
  refine callsIn_wide.2 (calls_of_wp_leaves hfn hb (wpIn_wide.1 (wpIn_mono (a2 ρ w _ [] Fence.wide rfl hR (hF.sub (Nat.le_refl _) b1.n) (argsT_rel ha fn.ntmps) .nil) fun x a w' hfin => ?_)))
  obtain ⟨ρ1, p1, p2, p3, p4, p5⟩ := hfin
  simp only at p1 p2 p3 p4 p5
  obtain ⟨u, hu1, hu2⟩ := hx ρ1 x p5
  exact hu2 _ _ _ (LeavesX.mono (fun e w'' hp => hp.ext p1 a1 b1) _ _ _ (b2 ρ1 w' a.tmps a.defers u p2 (hF.ext p1 a1.n) p3 p4 hu1))

theorem end_sound (hm : P.follows .mixedOrders = true) (hN : NoCount P) {call : CallF} (hc : CallOk P call) {fuel N : Nat} {f : FuncId} {fn : Func} {code : Code} {args : List Value} {s : St} {c : COut} (hfn : P.funcs[f]? = some fn) (hb : fn.body = some code) {o : Option Out}
    (hcode : codeF P call none (Nat.max fn.ntmps (lenL args)) N code (argsT args) [] s = o) (h : endSlow P call fuel fn o = some c) :
    StLe s c.s ∧ ∀ ρ w args', Rel P ρ (rdS s) w → Fresh ρ s.n c.s.n → LRel ρ args args' → EOk P ρ s w c ((callFunc f ⟨args'⟩).run P w) := by
  unfold endSlow at h
  split at h
  · exact fn_sound hm hN hc hfn hb _ _ _ _ .out hcode (fun ρ x hx => ⟨.returning, rfl, fun R a w hl => by have : x = .normal := hx; subst this; exact hl⟩) h
  · exact fn_sound hm hN hc hfn hb _ _ _ _ .out hcode (fun ρ x hx => ⟨.returning, rfl, fun R a w hl => by have : x = .ret := hx; subst this; exact hl⟩) h
  · exact fn_sound hm hN hc hfn hb _ _ _ _ (.pan _) hcode (fun ρ x hx => by
      obtain ⟨v', rfl, hv⟩ := hx
      exact ⟨_, ⟨v', rfl, hv⟩, fun R a w hl => hl⟩) h
  · cases h
theorem finK_end {call : CallF} {fuel : Nat} {fn : Func} {t : Tri Value} {s : St} {c : COut} (h : finK P fn t s = some c) : leaveF P call fuel fn t [] .out s = some c := by
  obtain ⟨vs, h1, h2⟩ := onSome_inv h
  simp only [leaveF, h1]; exact h2
theorem cRes_ok : ∀ {l : List ResultVar} {g : Tri Value → List Value}, cRes l = .ok g → ∀ t s, resF P t s l = some (g t) := by
  intro l
  induction l with
  | nil => intro g h t s; simp only [cRes] at h; cases h; rfl
  | cons x l ih =>
    intro g h t s
    cases x with
    | tmp i =>
      simp only [cRes] at h
      cases hA : @acc Value i with
      | mk f =>
        rw [hA] at h
        cases hl : cRes l with
        | ok g' =>
          rw [hl] at h; cases h
          simp only [resF, Tri.get_run, hA, Cl.run, ih hl t s]
          cases f t <;> rfl
        | bad => rw [hl] at h; cases h
    | cell i ty => simp only [cRes] at h; cases h
theorem cFin_end {call : CallF} {fuel : Nat} {fn : Func} {h : KN} (hc : cFin P fn = .mk h) {t : Tri Value} {s : St} {c : COut} (hh : h t s = some c) : leaveF P call fuel fn t [] .out s = some c := by
  unfold cFin at hc
  split at hc
  · rename_i g hg
    have hr := cRes_ok (P := P) hg t s
    split at hc
    · rename_i x hx
      cases hc
      simp only at hh
      simp only [leaveF, hr]
      cases hgt : g t with
      | nil => rw [hgt] at hh; cases hh
      | cons v l =>
        rw [hgt] at hh hr
        rw [hx] at hr
        have hl : l = [] := by
          simp only [resF] at hr
          split at hr
          · have := Option.some.inj hr
            exact (List.cons.inj this).2.symm
          · cases hr
        subst hl
        exact hh
    · rename_i hne
      cases hc
      simp only [leaveF, hr]
      have hl : tupF (g t) = .tuple ⟨g t⟩ := by
        cases hgt : g t with
        | nil => rfl
        | cons v l =>
          cases l with
          | cons v2 l => rfl
          | nil =>
            exfalso
            rw [hgt] at hr
            cases hrl : fn.results.toList with
            | nil => rw [hrl] at hr; simp [resF] at hr
            | cons x xs =>
              cases xs with
              | nil => exact hne x hrl
              | cons y ys =>
                rw [hrl] at hr
                simp only [resF] at hr
                split at hr
                · split at hr
                  · rename_i h2
                    have := Option.some.inj hr
                    have := (List.cons.inj this).2
                    subst this
                    split at h2
                    · split at h2
                      · cases h2
                      · cases h2
                    · cases h2
                  · cases hr
                · cases hr
      rw [hl]; exact hh
  · cases hc; exact finK_end hh
theorem runK_sound (hm : P.follows .mixedOrders = true) (hN : NoCount P) {q dp fuel : Nat} {call : CallF} (ih : CallOk P call) {f : FuncId} {args : List Value} {s : St} {c : COut} (h : runK P q dp fuel call f args s = some c) :
    StLe s c.s ∧ ∀ ρ w args', Rel P ρ (rdS s) w → Fresh ρ s.n c.s.n → LRel ρ args args' → EOk P ρ s w c ((callFunc f ⟨args'⟩).run P w) := by
  unfold runK at h
  cases hcf : cF P q dp f with
  | none => rw [hcf] at h; cases h
  | fast nt g fin =>
    rw [hcf] at h
    have h : fastK call nt g fin args s = some c := h
    unfold cF at hcf
    split at hcf
    · rename_i fn hfn
      split at hcf
      · rename_i code hb
        split at hcf
        · have hok := cC_ok (P := P) (nt := fn.ntmps) q dp code
          cases hcc : cC P q fn.ntmps dp code with
          | mk g' =>
            cases hcn : cFin P fn with
            | mk fin' =>
              rw [hcc, hcn] at hcf
              rw [hcc] at hok
              cases hcf
              obtain ⟨hle, h⟩ := ifB_inv' h
              have hmax : Nat.max fn.ntmps (lenL args) = fn.ntmps := Nat.max_eq_left (Nat.le_of_ble_eq_true hle)
              obtain ⟨N, o, h1, h2⟩ := hok _ _ _ _ _ h
              have h1 := h1 N (Nat.le_refl _)
              simp only at h1
              rw [← hmax] at h1
              refine end_sound hm hN ih (fuel := fuel) hfn hb h1 ?_
              obtain ⟨x, t1, d1, s1⟩ := o
              cases d1 with
              | cons a d => cases h2
              | nil =>
                cases x with
                | normal => exact cFin_end (call := call) (fuel := fuel) hcn h2
                | ret => exact cFin_end (call := call) (fuel := fuel) hcn h2
                | exit id => cases h2
                | goto l => cases h2
                | panic v => exact h2
        · cases hcf
      · cases hcf
    · cases hcf
  | slow fn code =>
    rw [hcf] at h
    unfold cF at hcf
    split at hcf
    · rename_i fn' hfn
      split at hcf
      · rename_i code' hb
        split at hcf
        · cases hcc : cC P q fn'.ntmps dp code' with
          | mk g' =>
            cases hcn : cFin P fn' with
            | mk fin' => rw [hcc, hcn] at hcf; cases hcf
        · cases hcf
          exact end_sound hm hN ih hfn hb rfl h
      · cases hcf
    · cases hcf
theorem callT_sound (hm : P.follows .mixedOrders = true) (hN : NoCount P) {sf : FuncId → Bool} {sm : Summ} (hs : SummOk P sm) {q dp fuel : Nat} : ∀ n, CallOk P (callT P sf sm q dp fuel n) := by
  intro n
  induction n with
  | zero => intro tgt args s c h; cases h
  | succ n ih =>
    intro tgt args s c h
    cases tgt with
    | round l =>
      have h : roundF P (callT P sf sm q dp fuel n) fuel l args s = some c := h
      obtain ⟨a1, a2⟩ := roundF_sound hm hN ih h
      exact ⟨a1, fun ρ w args' hR hF ha lc hl => a2 ρ w args' lc hR hF ha hl⟩
    | fn f =>
      have h : @Bool.rec (fun _ => R) (runK P q dp fuel (callT P sf sm q dp fuel n) f args s)
        (@Option.rec R (fun _ => R) (runK P q dp fuel (callT P sf sm q dp fuel n) f args s) (fun r => r) (sm f args s)) (sf f) = some c := h
      cases hsf : sf f with
      | false => rw [hsf] at h; exact runK_sound hm hN ih h
      | true =>
        rw [hsf] at h
        cases hsm : sm f args s with
        | none => rw [hsm] at h; exact runK_sound hm hN ih h
        | some r =>
          rw [hsm] at h
          have h : r = some c := h
          subst h
          exact hs f args s c hsm
end
end Go.Ev
