/- A second reading of the translated code, over values whose block numbers are our own: what must hold for a code to come to what is wanted (soundness: AbE to AbH). -/
import Derived.WalkKit
import Derived.RangeFuncNested
import Derived.RangeFuncLeaves
import Derived.StillTail
import Derived.BigQuiet
import Derived.Deep.QuietTactic
namespace Go.Ab
open Go
set_option linter.unusedVariables false

/-- what is known of a value: block numbers are our own -/
inductive V where
  | any
  | bool (b : Bool) | int (k : IntKind) (n : Int) | str (s : ByteArray)
  | ptr (k o : Nat) | gp (g o : Nat) | slc (k o n c : Nat)
  | fn (f : FuncId) (first caps : List V) | yld (k : Nat)
  | agg (cs : List V) | tup (cs : List V)
  | old (v : Value)

inductive TD where
  | int (k : IntKind) | bool | str | ptr (e : TypeId) | slc (e : TypeId)
  | st (fs : List (TypeId × Nat)) | arr (n : Nat) (e : TypeId)
  | other

structure TyE where
  td : TD
  size : Nat
  zero : List V

def lift : Value → V
  | .bool b => .bool b
  | .int k n => .int k n
  | .string s => .str s
  | v => .old v

structure LRec where
  ps : List Tmp
  assign : Code
  body : Code
  ts : List (Nat × V)
  d : Nat

inductive Blk where
  | cells (vs : List V)
  | loop (st : LoopState) (pend : Option Code) (r : LRec)
  | dfr
  | dead

structure S where
  ts : List (Nat × V)
  hp : List Blk
  marks : List Nat

def find (n : Nat) : List (Nat × V) → V
  | [] => .any
  | (m, v) :: l => match Nat.beq m n with | true => v | false => find n l

def ins (n : Nat) (v : V) : List (Nat × V) → List (Nat × V)
  | [] => [(n, v)]
  | (m, u) :: l => match Nat.beq m n with | true => (n, v) :: l | false => (m, u) :: ins n v l

def assoc {α : Type} (n : Nat) : List (Nat × α) → Option α
  | [] => none
  | (m, v) :: l => match Nat.beq m n with | true => some v | false => assoc n l

/-- what is known of a function: a plain function of its arguments; its text; or what is owed -/
inductive Ent where
  | pure (g : List V → Option (V × Bool))
  | body (fn : Func)
  | full (g : List V → List Blk → (V → List Blk → Prop) → Prop)

structure Cx where
  ty : List (Nat × TyE)
  fns : List (Nat × Ent)
  gs : List (Nat × (IntKind × List Int))
  eqs : List (Nat × (List V → List V → Option Bool))

def S.get (s : S) (x : Operand) : V :=
  match x with
  | .tmp t => find t s.ts
  | .const v => lift v
  | .global g => .gp g 0
  | .func f => .fn f [] []

def putT (d : Option Tmp) (v : V) (ts : List (Nat × V)) : List (Nat × V) :=
  match d with
  | some d => ins d v ts
  | none => ts

def S.put (s : S) (d : Option Tmp) (v : V) : S := ⟨putT d v s.ts, s.hp, s.marks⟩

def isAgg : TD → Bool
  | .st _ | .arr _ _ => true
  | _ => false

def V.cells : V → List V
  | .agg cs => cs
  | v => [v]

/-- a value of one cell -/
def one : V → Bool
  | .any | .agg _ | .tup _ => false
  | .old v => v.oneCell'
  | _ => true

def cellsIf (v : V) : Option (List V) := match v with
  | .agg cs => some cs
  | v => match one v with | true => some [v] | false => none

/-- n cells from o on -/
def takeAt (vs : List V) (o n : Nat) : Option (List V) :=
  match Nat.ble (o + n) vs.length with
  | true => some ((vs.drop o).take n)
  | false => none

def part (e : TyE) (vs : List V) (o : Nat) : Option V :=
  match isAgg e.td with
  | true => match takeAt vs o e.size with | some l => some (.agg l) | none => none
  | false => vs[o]?

def setAt : List V → Nat → List V → List V
  | vs, _, [] => vs
  | vs, o, u :: us => setAt (vs.set o u) (o + 1) us

variable (c : Cx)

def tyOf (t : TypeId) (k : TyE → Prop) : Prop := match assoc t c.ty with | some e => k e | none => False

/-- parting -/
def br (b : Bool) (X Y : Prop) : Prop := match b with | true => X | false => Y

/-- a demand on the way -/
def req (b : Bool) (X : Prop) : Prop := match b with | true => X | false => False

def kindEq : IntKind → IntKind → Bool
  | .i8, .i8 | .i16, .i16 | .i32, .i32 | .i64, .i64 | .u8, .u8 | .u16, .u16 | .u32, .u32 | .u64, .u64 => true
  | _, _ => false

/-- a value, and what is demanded -/
abbrev Got := Option (V × Bool)

def yes (v : V) : Got := some (v, true)

def tyO {α : Type} (t : TypeId) (k : TyE → Option α) : Option α := match assoc t c.ty with | some e => k e | none => none

def arith (op : BinOp) (k : IntKind) (a b : Int) : Got :=
  match op with
  | .add => yes (.int k (k.wrap (a + b)))
  | .sub => yes (.int k (k.wrap (a - b)))
  | .mul => yes (.int k (k.wrap (a * b)))
  | .quo => some (.int k (k.wrap (a.tdiv b)), !(b == 0))
  | .rem => some (.int k (a.tmod b), !(b == 0))
  | .and => yes (.int k (k.wrap (BitVec.ofInt k.bits a &&& BitVec.ofInt k.bits b).toNat))
  | .or => yes (.int k (k.wrap (BitVec.ofInt k.bits a ||| BitVec.ofInt k.bits b).toNat))
  | .xor => yes (.int k (k.wrap (BitVec.ofInt k.bits a ^^^ BitVec.ofInt k.bits b).toNat))
  | .andNot => yes (.int k (k.wrap (BitVec.ofInt k.bits a &&& ~~~ BitVec.ofInt k.bits b).toNat))
  | .eql => yes (.bool (a == b))
  | .neq => yes (.bool (a != b))
  | .lss => yes (.bool (decide (a < b)))
  | .leq => yes (.bool (decide (a ≤ b)))
  | .gtr => yes (.bool (decide (a > b)))
  | .geq => yes (.bool (decide (a ≥ b)))
  | .shl => some (.int k (k.wrap (a * 2 ^ (min b.toNat k.bits))), decide (0 ≤ b))
  | .shr => some (.int k (a.fdiv (2 ^ (min b.toNat k.bits))), decide (0 ≤ b))

def isShift : BinOp → Bool
  | .shl | .shr => true
  | _ => false

def eqs (op : BinOp) (r : Bool) : Got := match op with
  | .eql => yes (.bool r)
  | .neq => yes (.bool (!r))
  | _ => none

def bin (op : BinOp) (t : TypeId) (x y : V) : Got :=
  match x, y with
  | .int k a, .int k' b => match isShift op || kindEq k k' with
    | true => arith op k a b
    | false => none
  | .bool a, .bool b => tyO c t fun e => match e.td with
    | .bool => eqs op (a == b)
    | _ => none
  | .str a, .str b => match op with
    | .add => some (.str (a ++ b), decide (a.size + b.size ≤ 9223372036854775807))
    | .eql => yes (.bool (a.toList == b.toList))
    | .neq => yes (.bool (!(a.toList == b.toList)))
    | .lss => yes (.bool (Op.bytesLess a.toList b.toList))
    | _ => none
  | .agg xs, .agg ys => match assoc t c.eqs with
    | none => none
    | some g => match g xs ys with
      | none => none
      | some r => eqs op r
  | _, _ => none

def un (op : UnOp) (x : V) : Got :=
  match op, x with
  | .neg, .int k n => yes (.int k (k.wrap (0 - n)))
  | .not, .bool b => yes (.bool (!b))
  | _, _ => none

def cellsAt (hp : List Blk) (k : Nat) : Option (List V) := match hp[k]? with
  | some (.cells vs) => some vs
  | _ => none

def pt (v : Option V) (b : Bool) : Got := match v with
  | some v => some (v, b)
  | none => none

def fillAt (place : Nat → Option (Nat × Nat)) : List V → List (Nat × V) → Option (List V)
  | cs, [] => some cs
  | cs, (i, v) :: rest => match place i, cellsIf v with
    | some (off, sz), some vc => match Nat.beq vc.length sz && Nat.ble (off + sz) cs.length with
      | true => fillAt place (setAt cs off vc) rest
      | false => none
    | _, _ => none

def placesOf : List (TypeId × Nat) → Option (List (Nat × Nat))
  | [] => some []
  | (t, off) :: l => match assoc t c.ty, placesOf l with
    | some e, some r => some ((off, e.size) :: r)
    | _, _ => none

/-- operations that only look: one value -/
def look (s : S) (o : Oper) : Got :=
  match o.op with
  | .move x => yes (s.get x)
  | .assign x => yes (s.get x)
  | .pick x a b => match s.get x with
    | .bool p => match p with
      | true => yes (s.get a)
      | false => yes (s.get b)
    | _ => none
  | .load t a => tyO c t fun e => match s.get a with
    | .ptr k o => match cellsAt s.hp k with
      | some vs => pt (part e vs o) true
      | none => none
    | .gp g o => match isAgg e.td with
      | true => match assoc g c.gs with
        | some (k, ns) => some (.agg ((List.range e.size).map fun i => .int k (ns.getD (o + i) 0)), Nat.ble (o + e.size) ns.length)
        | none => none
      | false => match assoc g c.gs with
        | some (k, ns) => some (.int k (ns.getD o 0), Nat.blt o ns.length)
        | none => none
    | _ => none
  | .nilCheck x => match s.get x with
    | .ptr k o => yes (.ptr k o)
    | .gp k o => yes (.gp k o)
    | .fn f a b => yes (.fn f a b)
    | _ => none
  | .binOp op t x y _ => bin c op t (s.get x) (s.get y)
  | .unOp op _ x => un op (s.get x)
  | .convert t d x => tyO c t fun _ => tyO c d fun e => match e.td with
    | .int k => match s.get x with
      | .int _ n => yes (.int k (k.wrap n))
      | _ => none
    | _ => none
  | .fieldAddr t x f => tyO c t fun e => match e.td with
    | .st fs => match fs[f]? with
      | some (ft, off) => tyO c ft fun fe => match Nat.beq fe.size 0 with
        | true => none
        | false => match s.get x with
          | .ptr k o => yes (.ptr k (o + off))
          | .gp g o => yes (.gp g (o + off))
          | _ => none
      | none => none
    | _ => none
  | .field t x f => tyO c t fun e => match e.td with
    | .st fs => match fs[f]? with
      | some (ft, off) => tyO c ft fun fe => match s.get x with
        | .agg cs => pt (part fe cs off) true
        | _ => none
      | none => none
    | _ => none
  | .extract x i => match s.get x with
    | .tup vs => pt vs[i]? true
    | _ => none
  | .indexAddr t x i => tyO c t fun e => match s.get i with
    | .int _ j => match e.td with
      | .arr n el => tyO c el fun ee => match s.get x with
        | .ptr k o => some (.ptr k (o + j.toNat * ee.size), decide (0 ≤ j) && decide (j < n))
        | .gp g o => some (.gp g (o + j.toNat * ee.size), decide (0 ≤ j) && decide (j < n))
        | _ => none
      | .slc el => tyO c el fun ee => match s.get x with
        | .slc k o n _ => some (.ptr k (o + j.toNat * ee.size), decide (0 ≤ j) && decide (j < n))
        | _ => none
      | _ => none
    | _ => none
  | .index t x i => tyO c t fun e => match s.get i with
    | .int _ j => match e.td with
      | .arr n el => tyO c el fun ee => match s.get x with
        | .agg cs => pt (part ee cs (j.toNat * ee.size)) (decide (0 ≤ j) && decide (j < n))
        | _ => none
      | .str => match s.get x with
        | .str b => some (.int .u8 ((b.data.toList.getD j.toNat 0).toNat), decide (0 ≤ j) && decide (j < b.size))
        | _ => none
      | _ => none
    | _ => none
  | .slice t x lo hi mx => match mx with
    | some _ => none
    | none => tyO c t fun e => match e.td with
      | .str => match s.get x with
        | .str b => match hi with
          | none => match lo with
            | none => yes (.str (b.extract 0 b.size))
            | some l => match s.get l with
              | .int _ l => some (.str (b.extract l.toNat b.size), decide (0 ≤ l) && decide (l ≤ b.size))
              | _ => none
          | some h => match s.get h with
            | .int _ h => match lo with
              | none => some (.str (b.extract 0 h.toNat), decide (0 ≤ h) && decide (h ≤ b.size))
              | some l => match s.get l with
                | .int _ l => some (.str (b.extract l.toNat h.toNat), decide (0 ≤ h) && decide (h ≤ b.size) && (decide (0 ≤ l) && decide (l ≤ h)))
                | _ => none
            | _ => none
        | _ => none
      | _ => none
  | .build t parts => tyO c t fun e => match e.td with
    | .st fs => match placesOf c fs with
      | some pl => match fillAt (pl[·]?) e.zero (parts.toList.map fun p => (p.1, s.get p.2)) with
        | some cs => yes (.agg cs)
        | none => none
      | none => none
    | .arr _ el => tyO c el fun ee => match fillAt (fun i => some (i * ee.size, ee.size)) e.zero (parts.toList.map fun p => (p.1, s.get p.2)) with
      | some cs => yes (.agg cs)
      | none => none
    | _ => none
  | .makeFunc f first caps => match f with
    | .func f => yes (.fn f (first.toList.map s.get) (caps.toList.map s.get))
    | _ => none
  | .call cl => match cl.callee with
    | .builtin b => match cl.args.toList.map s.get with
      | [.slc _ _ n _] => match b with
        | .len => match cl.argTypes.toList with
          | [t] => tyO c t fun e => match e.td with
            | .slc _ => yes (.int .i64 n)
            | _ => none
          | _ => none
        | _ => none
      | [.str x] => match b with
        | .len => match cl.argTypes.toList with
          | [t] => tyO c t fun e => match e.td with
            | .str => yes (.int .i64 x.size)
            | _ => none
          | _ => none
        | _ => none
      | [.int k a, .int _ b'] => match b with
        | .min => yes (.int k (if b' < a then b' else a))
        | .max => yes (.int k (if b' > a then b' else a))
        | _ => none
      | _ => none
    | _ => none
  | _ => none

/-- operations that make memory, or write to it -/
def act (s : S) (o : Oper) (K : S → Prop) : Prop :=
  match o.op with
  | .box t x => match cellsIf (s.get x) with
    | some cs => K (S.put ⟨s.ts, s.hp ++ [Blk.cells cs], s.marks⟩ o.dst (.ptr s.hp.length 0))
    | none => False
  | .alloc t => tyOf c t fun e => K (S.put ⟨s.ts, s.hp ++ [Blk.cells e.zero], s.marks⟩ o.dst (.ptr s.hp.length 0))
  | .buildSlice t n parts => tyOf c t fun e => match e.td with
    | .slc el => tyOf c el fun ee => match Nat.ble (n * ee.size) 1000 && !(Nat.beq (n * ee.size) 0) && Nat.beq ee.zero.length ee.size with
      | true => match fillAt (fun i => some (i * ee.size, ee.size)) ((List.range (n * ee.size)).map fun i => ee.zero.getD (i % ee.size) .any) (parts.toList.map fun p => (p.1, s.get p.2)) with
        | some cs => K (S.put ⟨s.ts, s.hp ++ [Blk.cells cs], s.marks⟩ o.dst (.slc s.hp.length 0 n n))
        | none => False
      | false => False
    | _ => False
  | .store t a x => tyOf c t fun e => match s.get a with
    | .ptr k o' => match cellsAt s.hp k, cellsIf (s.get x) with
      | some vs, some us => match Nat.beq us.length e.size && Nat.ble (o' + e.size) vs.length && us.all one with
        | true => K (S.put ⟨s.ts, s.hp.set k (.cells (setAt vs o' us)), s.marks⟩ o.dst (.tup []))
        | false => False
      | _, _ => False
    | _ => False
  | _ => match look c s o with
    | some (v, b) => req b (K (s.put o.dst v))
    | none => False

/-- parting at a guard -/
def guardOf (ops : Array Oper) (s : S) (o : Oper) (K : Bool → S → Prop) : Prop :=
  match o.guard with
  | none => K true s
  | some (j, want) => match (ops[j]?).bind (·.dst) with
    | none => False
    | some t => match find t s.ts with
      | .bool b => match b with
        | true => K want ⟨ins t (.bool true) s.ts, s.hp, s.marks⟩
        | false => K (!want) ⟨ins t (.bool false) s.ts, s.hp, s.marks⟩
      | _ => False

inductive Ret where
  | normal | ret | exit (id : Nat)

def callOf (o : Oper) : Option (Operand × Array Operand) := match o.op with
  | .call cl => match cl.callee with | .value f => some (f, cl.args) | _ => none
  | _ => none

abbrev CV := V → List V → List Blk → (V → List Blk → Prop) → Prop

def astep (cv : CV) (o : Oper) (s : S) (K : S → Prop) : Prop := match callOf o with
  | some (f, args) => cv (s.get f) (args.toList.map s.get) s.hp fun v hp => K (S.put ⟨s.ts, hp, s.marks⟩ o.dst v)
  | none => act c s o K

def aops (cv : CV) (ops : Array Oper) (K : S → Prop) : List Oper → S → Prop
  | [], s => K s
  | o :: l, s => guardOf ops s o fun go s => match go with
    | false => aops cv ops K l (s.put o.dst (.tup []))
    | true => astep c cv o s fun s => aops cv ops K l s

mutual

/-- nothing of it is unknown -/
def solid : V → Bool
  | .any => false
  | .fn _ a b => solids a && solids b
  | .agg cs => solids cs
  | .tup cs => solids cs
  | _ => true

def solids : List V → Bool
  | [] => true
  | v :: vs => solid v && solids vs
end

/-- an operation that leaves memory alone -/
def headable (o : Oper) : Bool := match o.op with
  | .box _ _ | .alloc _ | .buildSlice _ _ _ | .store _ _ _ => false
  | .call cl => match cl.callee with
    | .value (.func f) => match assoc f c.fns with | some (.pure _) => true | _ => false
    | .builtin b => match b with | .len | .min | .max => true | _ => false
    | _ => false
  | _ => true

def headN : List Oper → Nat
  | [] => 0
  | o :: l => match headable c o with | true => headN l + 1 | false => 0

def qget (s : S) (o : Oper) : Got := match callOf o with
  | some (f, args) => match s.get f with
    | .fn f a b => match assoc f c.fns with
      | some (.pure g) => g (a ++ args.toList.map s.get ++ b)
      | _ => none
    | _ => none
  | none => look c s o

def ahead (ops : Array Oper) (K : S → Prop) : List Oper → S → Prop
  | [], s => K s
  | o :: l, s => guardOf ops s o fun go s => match go with
    | false => ahead ops K l (s.put o.dst (.tup []))
    | true => match qget c s o with
      | some (v, b) => req (b && solid v) (ahead ops K l (s.put o.dst v))
      | none => False

def isFn : V → Bool
  | .fn _ _ _ => true
  | _ => false

def cvF (cv : CV) : CV := fun v args hp K => match isFn v with | true => cv v args hp K | false => False

/-- a region whose order is drawn: what only looks ahead, the rest in the one order that there is -/
def adraw (cv : CV) (ops : Array Oper) (K : S → Prop) (s : S) : Prop :=
  match Nat.beq (headN c ops.toList) ops.toList.length with
  | true => req (Region.lexB .any ops) (ahead c ops K ops.toList s)
  | false => req (Region.lexTailB .any ops (headN c ops.toList)) (ahead c ops (aops c (cvF cv) ops K (ops.toList.drop (headN c ops.toList))) (ops.toList.take (headN c ops.toList)) s)

def keep (ok : Nat → Bool) (s : S) : S := ⟨s.ts.filter fun p => ok p.1, s.hp, s.marks⟩

mutual

def inN (n : Nat) : V → Bool
  | .ptr k _ => Nat.blt k n
  | .slc k _ _ _ => Nat.blt k n
  | .yld k => Nat.blt k n
  | .fn _ a b => inNs n a && inNs n b
  | .agg cs => inNs n cs
  | .tup cs => inNs n cs
  | _ => true

def inNs (n : Nat) : List V → Bool
  | [] => true
  | v :: vs => inN n v && inNs n vs
end

def inNT (n : Nat) : List (Nat × V) → Bool
  | [] => true
  | (_, v) :: l => inN n v && inNT n l

def inNB (n : Nat) : Blk → Bool
  | .cells vs => inNs n vs
  | .loop _ _ r => inNT n r.ts && Nat.blt r.d n
  | _ => true

def inNH (n : Nat) : List Blk → Bool
  | [] => true
  | b :: l => inNB n b && inNH n l

def inNM (n : Nat) : List Nat → Bool
  | [] => true
  | k :: l => Nat.blt k n && inNM n l

/-- the state s is one of those that s' tells of -/
def weakT (ts : List (Nat × V)) : List (Nat × V) → Prop
  | [] => True
  | (n, v) :: l => find n ts = v ∧ weakT ts l

def weak (N : Nat) (s s' : S) : Prop := s' = s ∨
  weakT s.ts s'.ts ∧ s'.hp = s.hp.take s'.hp.length ∧ s'.marks = s.marks ∧ Nat.ble N s'.hp.length = true ∧
    (Nat.beq s'.hp.length s.hp.length || (inNT s'.hp.length s'.ts && inNH s'.hp.length s'.hp && inNM s'.hp.length s'.marks)) = true

/-- k rounds at most -/
def iterK (K : Ret → S → Prop) (next : S → Prop) : Ret → S → Prop
  | .normal, s => next s
  | .ret, s => K .ret s
  | .exit i, s => K (.exit i) s

def iter (N : Nat) (a : (Ret → S → Prop) → S → Prop) (K : Ret → S → Prop) : Nat → S → Prop
  | 0, _ => False
  | k + 1, s => ∃ s', weak N s s' ∧ a (iterK K fun s => iter N a K k s) s'

/-- rounds, each from the very state that the last one has left -/
def iter0 (a : (Ret → S → Prop) → S → Prop) (K : Ret → S → Prop) : Nat → S → Prop
  | 0, _ => False
  | k + 1, s => a (iterK K fun s => iter0 a K k s) s

def firstOf : Code → Nat
  | .region id _ _ => id
  | .seq a _ => firstOf a
  | .block _ a => firstOf a
  | .cond _ a _ => firstOf a
  | .loop a => firstOf a
  | .scope a => firstOf a
  | _ => 0

def dOf (round : Option Nat) (hp : List Blk) : Option Nat := match round with
  | none => none
  | some k => match hp[k]? with | some (.loop _ _ r) => some r.d | _ => none

def seqK (K : Ret → S → Prop) (next : S → Prop) : Ret → S → Prop
  | .normal, s => next s
  | .ret, s => K .ret s
  | .exit i, s => K (.exit i) s

def blkK (K : Ret → S → Prop) (id : Nat) : Ret → S → Prop
  | .normal, s => K .normal s
  | .ret, s => K .ret s
  | .exit i, s => match Nat.beq i id with | true => K .normal s | false => K (.exit i) s

def pendK (K : Ret → S → Prop) (s : S) : Option Code → Prop
  | none => K .normal s
  | some (.ret) => K .ret s
  | some (.exit i) => K (.exit i) s
  | _ => False

def doneK (K : Ret → S → Prop) (s : S) (pend : Option Code) : LoopState → Prop
  | .busy => False
  | _ => pendK K s pend

def afterK (K : Ret → S → Prop) (ts : List (Nat × V)) (ms : List Nat) (k : Nat) (hp : List Blk) : Prop :=
  match hp[k]? with
  | some (.loop st pend _) => doneK K ⟨ts, hp.set k .dead, ms⟩ pend st
  | _ => False

def acode (cv : CV) (ok : Nat → Bool) (lp : Nat → Nat) (round : Option Nat) : Code → (Ret → S → Prop) → S → Prop
  | .skip, K, s => K .normal s
  | .label _, K, s => K .normal s
  | .ret, K, s => K .ret s
  | .exit id, K, s => K (.exit id) s
  | .region _ ops draw, K, s => match draw with
    | false => aops c cv ops (fun s => K .normal (keep ok s)) ops.toList s
    | true => match round with | none => adraw c cv ops (fun s => K .normal (keep ok s)) s | some _ => False
  | .seq a b, K, s => acode cv ok lp round a (seqK K fun s => acode cv ok lp round b K s) s
  | .cond x a b, K, s => match s.get x with
    | .bool t => match t with
      | true => acode cv ok lp round a K s
      | false => acode cv ok lp round b K s
    | _ => False
  | .block id a, K, s => acode cv ok lp round a (blkK K id) s
  | .scope a, K, s => acode cv ok lp round a K s
  | .loop a, K, s => match lp (firstOf a) with
    | 0 => ∃ k, iter s.hp.length (acode cv ok lp round a) K k s
    | n + 1 => iter0 (acode cv ok lp round a) K (n + 1) s
  | .rangeFunc f ps assign body, K, s => match isFn (s.get f) with
    | true => match round with
      | none => cv (s.get f) [.yld (s.hp.length + 1)] (s.hp ++ [Blk.dfr, Blk.loop .ready none ⟨ps.toList, assign, body, s.ts, s.hp.length⟩]) fun _ hp =>
          afterK K s.ts (s.hp.length :: s.marks) (s.hp.length + 1) hp
      | some k₀ => match s.hp[k₀]? with
        | some (.loop _ _ r₀) => cv (s.get f) [.yld s.hp.length] (s.hp ++ [Blk.loop .ready none ⟨ps.toList, assign, body, s.ts, r₀.d⟩]) fun _ hp =>
            afterK K s.ts s.marks s.hp.length hp
        | _ => False
    | false => False
  | _, _, _ => False

def result (s : S) (r : ResultVar) (K : V → Prop) : Prop := match r with
  | .tmp t => K (find t s.ts)
  | .cell a t => tyOf c t fun e => match find a s.ts with
    | .ptr k o => match cellsAt s.hp k with
      | some vs => match part e vs o with | some v => K v | none => False
      | none => False
    | _ => False

def resultsOf (s : S) : List ResultVar → (List V → Prop) → Prop
  | [], K => K []
  | r :: l, K => result c s r fun v => resultsOf s l (fun vs => K (v :: vs))

def number : Nat → List V → List (Nat × V)
  | _, [] => []
  | n, v :: l => (n, v) :: number (n + 1) l

/-- what a callee has made, and nobody sees, is forgotten -/
def leave (n : Nat) (hp : List Blk) (v : V) (K : V → List Blk → Prop) : Prop :=
  match inN n v && inNH n (hp.take n) with
  | true => K v (hp.take n)
  | false => K v hp

def zipPut : List Tmp → List V → List (Nat × V) → List (Nat × V)
  | p :: ps, v :: vs, ts => zipPut ps vs (ins p v ts)
  | _, _, ts => ts

/-- the block for the calls that rounds defer is still empty -/
def shutOk : List Blk → List Nat → Prop
  | _, [] => True
  | hp, k :: l => (match hp[k]? with | some .dfr => True | _ => False) ∧ shutOk (hp.set k .dead) l

def shutK (X : Prop) : List Blk → List Nat → Prop
  | _, [] => X
  | hp, k :: l => match hp[k]? with | some .dfr => shutK X (hp.set k .dead) l | _ => False

def deadAll : List Nat → List Blk → List Blk
  | [], hp => hp
  | k :: l, hp => deadAll l (hp.set k .dead)

def tupOf : List V → V
  | [v] => v
  | vs => .tup vs

/-- temporaries that are read elsewhere than where they are set: all -/
def kept : Nat → Bool := fun _ => true

def retK (n : Nat) (fn : Func) (K : V → List Blk → Prop) : Ret → S → Prop
  | .exit _, _ => False
  | _, s => shutK (resultsOf c ⟨s.ts, deadAll s.marks s.hp, []⟩ fn.results.toList fun vs => leave n (deadAll s.marks s.hp) (tupOf vs) K) s.hp s.marks

def busyK (n k : Nat) (K : V → List Blk → Prop) (q : Ret) (s : S) : Prop := match s.hp[k]? with
  | some (.loop .busy none r) => match q with
    | .normal => leave n (s.hp.set k (.loop .ready none r)) (.bool true) K
    | .ret => leave n (s.hp.set k (.loop .done (some .ret) r)) (.bool false) K
    | .exit i => leave n (s.hp.set k (.loop .done (some (.exit i)) r)) (.bool false) K
  | _ => False

def beginK (k : Nat) (next : S → Prop) : Ret → S → Prop
  | .normal, s => match s.hp[k]? with
    | some (.loop .ready none r) => next ⟨s.ts, s.hp.set k (.loop .busy none r), s.marks⟩
    | _ => False
  | _, _ => False

def acall (ok : FuncId → Nat → Bool) (lp : FuncId → Nat → Nat) : Nat → CV
  | 0, _, _, _, _ => False
  | n + 1, v, args, hp, K => match v with
    | .fn f a b => match assoc f c.fns with
      | some (.pure g) => match g (a ++ args ++ b) with | some (v, d) => req d (K v hp) | none => False
      | some (.full g) => g (a ++ args ++ b) hp K
      | some (.body fn) => match fn.body with
        | some code => acode c (acall ok lp n) (ok f) (lp f) none code (retK c hp.length fn K) ⟨number 0 (a ++ args ++ b), hp, []⟩
        | none => False
      | none => False
    | .yld k => match hp[k]? with
      | some (.loop .ready none r) => req (Nat.beq r.ps.length args.length) (acode c (acall ok lp n) kept (fun _ => 0) (some k) r.assign
          (beginK k fun s => acode c (acall ok lp n) kept (fun _ => 0) (some k) r.body (busyK hp.length k K) s) ⟨zipPut r.ps args r.ts, hp, []⟩)
      | _ => False
    | _ => False
end Go.Ab
