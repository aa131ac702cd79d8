/- The second reading, third edition: a reading of the translated code, over values whose block numbers are our own: what must hold for a code to come to what is wanted (soundness: Bb to Bh). -/
import Derived.WalkKit
import Derived.RangeFuncNested
import Derived.RangeFuncLeaves
import Derived.StillTail
import Derived.BigQuiet
import Derived.Deep.QuietTactic
namespace Go.B
open Go
set_option linter.unusedVariables false
set_option linter.unusedSectionVars false

/-- kinds of plain data: one cell each, or parts one behind the other -/
inductive Ty where
  | int (k : IntKind) | bool | str | sl (t : Ty) | pr (a b : Ty)
  deriving DecidableEq

@[reducible] def Ty.den : Ty → Type
  | .int _ => Int
  | .bool => Bool
  | .str => ByteArray
  | .sl t => List t.den
  | .pr a b => a.den × b.den

def Ty.size : Ty → Nat
  | .pr a b => a.size + b.size
  | _ => 1

def Ty.dflt : (t : Ty) → t.den
  | .int _ => (0 : Int)
  | .bool => false
  | .str => (⟨#[]⟩ : ByteArray)
  | .sl _ => []
  | .pr a b => (a.dflt, b.dflt)

/-- what is known of a value: block numbers are our own -/
inductive V where
  | any
  | bool (b : Bool) | int (k : IntKind) (n : Int) | str (s : ByteArray)
  | ptr (k o : Nat) | gp (g o : Nat) | slc (k o n c : Nat)
  | fn (f : FuncId) (first caps : List V) | yld (k : Nat)
  | agg (cs : List V) | tup (cs : List V)
  | old (v : Value)
  /-- a row of our own (n elements of z cells, room for c; none, or empty, where c = 0); a part of one, from element o on; a cell of one -/
  | row (k z n c : Nat) | rs (k z o n c : Nat) | rp (k z i f : Nat)
  /-- a row of plain data that nobody writes to (room for c, where that is known); a place in such memory: cell f of an element x -/
  | sl (t : Ty) (l : List t.den) (c : Option Nat) | sp (t : Ty) (x : t.den) (f : Nat)
  /-- a fresh row (in a result's shape) -/
  | nw (t : Ty) (l : List t.den) (T : TypeId)
  /-- a map of our own -/
  | mp (k : Nat)

/-- a table of a variable that nobody writes to -/
inductive CF where
  | int (k : IntKind) (l : List Int) | str (l : List ByteArray)
  /-- one number of a kind, whatever it is -/
  | some (k : IntKind)

inductive TD where
  | int (k : IntKind) | bool | str | ptr (e : TypeId) | slc (e : TypeId)
  | st (fs : List (TypeId × Nat)) | arr (n : Nat) (e : TypeId) | mp (k e : TypeId)
  | other

structure TyE where
  td : TD
  size : Nat
  zero : List V
  bytes : Nat
  ty : Option Ty

def lift : Value → V
  | .bool b => .bool b
  | .int k n => .int k n
  | .string s => .str s
  | v => .old v

structure LRec where
  f : FuncId
  ps : List Tmp
  assign : Code
  body : Code
  ts : List (Nat × V)
  d : Nat

inductive Blk where
  | cells (vs : List V)
  | loop (st : LoopState) (pend : Option Code) (r : LRec)
  | dfr
  | dead
  /-- a row of our own: its elements, its element's type, room for c; one that nobody writes to any more -/
  | row (t : Ty) (l : List t.den) (T : TypeId) (c : Nat) | ice (t : Ty) (l : List t.den) (T : TypeId) (c : Nat)
  /-- a text that is ranged over, and where -/
  | iter (s : ByteArray) (pos : Nat)
  /-- a map of our own: keys of a kind, and what stands there -/
  | map (kd : IntKind) (es : List (Int × V))

structure S where
  ts : List (Nat × V)
  hp : List Blk
  marks : List Nat

def find (n : Nat) : List (Nat × V) → V
  | [] => .any
  | (m, v) :: l => match Nat.beq m n with | true => v | false => find n l

def ins (n : Nat) (v : V) (l : List (Nat × V)) : List (Nat × V) := (n, v) :: l

def insS (n : Nat) (v : V) : List (Nat × V) → List (Nat × V)
  | [] => [(n, v)]
  | (m, u) :: l => match Nat.beq m n with
    | true => (n, v) :: l
    | false => match Nat.ble n m with
      | true => (n, v) :: (m, u) :: l
      | false => (m, u) :: insS n v l

/-- in order, each once, the first that stands -/
def sortT : List (Nat × V) → List (Nat × V)
  | [] => []
  | (n, v) :: l => insS n v (sortT l)

def assoc {α : Type} (n : Nat) : List (Nat × α) → Option α
  | [] => none
  | (m, v) :: l => match Nat.beq m n with | true => some v | false => assoc n l

/-- what goes into a function, or comes out: numbers, texts, rows that are read, fresh rows -/
inductive RT where
  | int (k : IntKind) | bool | str | sl (t : Ty) | nw (t : Ty) (T : TypeId) | unit | none
  | one (a : RT) | cons (a r : RT) | agg (l : RT) | tup (l : RT)

@[reducible] def RT.den : RT → Type
  | .int _ => Int
  | .bool => Bool
  | .str => ByteArray
  | .sl t => List t.den
  | .nw t _ => List t.den
  | .unit => Unit
  | .none => Unit
  | .one a => a.den
  | .cons a r => a.den × r.den
  | .agg l => l.den
  | .tup l => l.den

def Ty.flat : Ty → Bool
  | .sl _ => false
  | .pr a b => a.flat && b.flat
  | _ => true

/-- no rows -/
def RT.flat : RT → Bool
  | .sl _ => false
  | .nw t _ => t.flat
  | .one a => a.flat
  | .cons a r => a.flat && r.flat
  | .agg l => l.flat
  | .tup l => l.flat
  | _ => true

/-- numbers and texts alone -/
def RT.plain : RT → Bool
  | .sl _ => false
  | .nw _ _ => false
  | .one a => a.plain
  | .cons a r => a.plain && r.plain
  | .agg l => l.plain
  | .tup l => l.plain
  | _ => true

/-- the values, by their shape -/
def RT.shape : (a : RT) → a.den → List V
  | .int k, n => [.int k n]
  | .bool, b => [.bool b]
  | .str, s => [.str s]
  | .sl t, l => [.sl t l Option.none]
  | .nw t T, l => [.nw t l T]
  | .unit, _ => [.tup []]
  | .none, _ => []
  | .one a, x => a.shape x
  | .cons a r, x => a.shape x.1 ++ r.shape x.2
  | .agg l, x => [.agg (l.shape x)]
  | .tup l, x => [.tup (l.shape x)]

/-- what is known of a function: a relation of what goes in and what comes out; a plain function, where something holds; its text; or what is owed -/
inductive Ent where
  | fx (A B : RT) (R : A.den → B.den → Prop)
  | fn (A B : RT) (g : A.den → B.den) (pre : A.den → Bool)
  | body (fn : Func)
  | full (g : List V → List Blk → (V → List Blk → Prop) → Prop)

structure Cx where
  ty : List (Nat × TyE)
  fns : List (Nat × Ent)
  gs : List (Nat × CF)
  eqs : List (Nat × (List V → List V → Option Bool))
  m : Bool
  /-- kinds of rows that are rows of our own where they are written out -/
  rw : List Nat

/-- data stand in full (a run) -/
def Cx.cc (c : Cx) : Bool := match c.rw with
  | x :: _ => Nat.beq x 1000000
  | [] => false

def S.get (s : S) (x : Operand) : V :=
  match x with
  | .tmp t => find t s.ts
  | .const v => lift v
  | .global g => .gp g 0
  | .func f => .fn f [] []

def putT (d : Option Tmp) (v : V) (ts : List (Nat × V)) : List (Nat × V) :=
  match d with
  | some d => ins d v ts
  | none => ts

def S.put (s : S) (d : Option Tmp) (v : V) : S := ⟨putT d v s.ts, s.hp, s.marks⟩

def isAgg : TD → Bool
  | .st _ | .arr _ _ => true
  | _ => false

def V.cells : V → List V
  | .agg cs => cs
  | v => [v]

/-- a value of one cell -/
def one : V → Bool
  | .any | .agg _ | .tup _ => false
  | .old v => v.oneCell'
  | _ => true

def cellsIf (v : V) : Option (List V) := match v with
  | .agg cs => some cs
  | v => match one v with | true => some [v] | false => none

/-- n cells from o on -/
def takeAt {α : Type} (vs : List α) (o n : Nat) : Option (List α) :=
  match Nat.ble (o + n) vs.length with
  | true => some ((vs.drop o).take n)
  | false => none

def part (e : TyE) (vs : List V) (o : Nat) : Option V :=
  match isAgg e.td with
  | true => match takeAt vs o e.size with | some l => some (.agg l) | none => none
  | false => vs[o]?

def kindEq : IntKind → IntKind → Bool
  | .i8, .i8 | .i16, .i16 | .i32, .i32 | .i64, .i64 | .u8, .u8 | .u16, .u16 | .u32, .u32 | .u64, .u64 => true
  | _, _ => false

/-- numbers of one kind -/
def intsOf (k : IntKind) : List V → Option (List Int)
  | [] => some []
  | .int k' n :: l => match kindEq k k' with
    | true => match intsOf k l with
      | some ns => some (n :: ns)
      | none => none
    | false => none
  | _ :: _ => none

/-- the cell at o; of a row of numbers of one kind also where o is open -/
def getV (vs : List V) (o : Nat) : Option (V × Bool) := match vs with
  | .int k a :: b :: l => match intsOf k (.int k a :: b :: l) with
    | some ns => some (.int k (ns.getD o 0), Nat.blt o ns.length)
    | none => match vs[o]? with | some v => some (v, true) | none => none
  | _ => match vs[o]? with | some v => some (v, true) | none => none

def partO (e : TyE) (vs : List V) (o : Nat) : Option (V × Bool) :=
  match isAgg e.td with
  | true => match Nat.ble vs.length e.size with
    | true => match part e vs o with | some v => some (v, true) | none => none
    | false => match vs with
      | .int k a :: l => match intsOf k (.int k a :: l) with
        | some ns => some (.agg ((List.range e.size).map fun i => .int k (ns.getD (o + i) 0)), Nat.ble (o + e.size) ns.length)
        | none => match part e vs o with | some v => some (v, true) | none => none
      | _ => match part e vs o with | some v => some (v, true) | none => none
  | false => getV vs o

def setAt : List V → Nat → List V → List V
  | vs, _, [] => vs
  | vs, o, u :: us => setAt (vs.set o u) (o + 1) us

/-- one number of a row of numbers of one kind is put at o, which may be open -/
def openI (vs us : List V) : Option (IntKind × Int) := match us with
  | [.int k y] => match vs with
    | .int k' a :: b :: l => match intsOf k (.int k' a :: b :: l) with
      | some _ => some (k, y)
      | none => none
    | _ => none
  | _ => none

def putI (k : IntKind) (o : Nat) (y : Int) : Nat → List V → List V
  | j, .int _ x :: l => .int k (bif Nat.beq o j then y else x) :: putI k o y (j + 1) l
  | _, l => l

/-- the cells of a plain datum -/
def Ty.cells : (t : Ty) → t.den → List V
  | .int k, n => [.int k n]
  | .bool, b => [.bool b]
  | .str, s => [.str s]
  | .sl t, l => [.sl t l none]
  | .pr a b, x => a.cells x.1 ++ b.cells x.2

def castL (a b : Ty) (l : List a.den) : Option (List b.den) := if h : a = b then some (h ▸ l) else none
/- the first of values -/

def popInt (k : IntKind) : List V → Option (Int × List V)
  | .int k' n :: r => match kindEq k k' with | true => some (n, r) | false => none
  | _ => none

def popBool : List V → Option (Bool × List V)
  | .bool b :: r => some (b, r)
  | _ => none

def popStr : List V → Option (ByteArray × List V)
  | .str s :: r => some (s, r)
  | _ => none

def popAgg : List V → Option (List V × List V)
  | .agg cs :: r => some (cs, r)
  | _ => none

def popTup : List V → Option (List V × List V)
  | .tup cs :: r => some (cs, r)
  | _ => none

def nil? : V → Bool
  | .old (.slice none 0 0) => true
  | _ => false

def popSl (t : Ty) : List V → Option (List t.den × List V)
  | v :: r => match v with
    | .sl t' l _ => match castL t' t l with | some l => some (l, r) | none => none
    | v => match nil? v with | true => some ([], r) | false => none
  | [] => none

/-- a plain datum, out of cells; what is left -/
def Ty.of : (t : Ty) → List V → Option (t.den × List V)
  | .int k, vs => popInt k vs
  | .bool, vs => popBool vs
  | .str, vs => popStr vs
  | .sl t, vs => popSl t vs
  | .pr a b, vs => match a.of vs with
    | some (x, r) => match b.of r with
      | some (y, q) => some ((x, y), q)
      | none => none
    | none => none

def Ty.whole (t : Ty) (vs : List V) : Option t.den := match t.of vs with
  | some (x, []) => some x
  | _ => none

/-- data, one behind the other -/
def Ty.many (t : Ty) : Nat → List V → Option (List t.den)
  | 0, _ => some []
  | n + 1, vs => match t.of vs with
    | some (x, r) => match Ty.many t n r with
      | some l => some (x :: l)
      | none => none
    | none => none

/-- a row's elements -/
structure RowOf where
  t : Ty
  l : List t.den

def rowAt (hp : List Blk) (k : Nat) : Option RowOf := match hp[k]? with
  | some (.row t l _ _) => some ⟨t, l⟩
  | some (.ice t l _ _) => some ⟨t, l⟩
  | _ => none

/-- the content of a row of any sort; what is demanded -/
def con (hp : List Blk) (t : Ty) (v : V) : Option (List t.den × Bool) := match v with
  | .sl t' l _ => match castL t' t l with | some l => some (l, true) | none => none
  | .row k z n _ => match rowAt hp k with
    | some ⟨t', l⟩ => match Nat.beq z t'.size with
      | true => match castL t' t l with | some l => some (l, Nat.beq n l.length) | none => none
      | false => none
    | none => none
  | .rs k z o n _ => match rowAt hp k with
    | some ⟨t', l⟩ => match Nat.beq z t'.size with
      | true => match castL t' t l with | some l => some ((l.drop o).take n, Nat.ble (o + n) l.length) | none => none
      | false => none
    | none => none
  | .slc k o n _ => match hp[k]? with
    | some (.cells vs) => match t.many ((vs.length - o) / t.size) (vs.drop o) with
      | some l => some (l.take n, Nat.ble n l.length)
      | none => none
    | _ => none
  | v => match nil? v with | true => some ([], true) | false => none

/-- what goes in, read off values; what is left, and what is demanded -/
def RT.ext (hp : List Blk) : (a : RT) → List V → Option (a.den × List V × Bool)
  | .int k, vs => match popInt k vs with | some (n, r) => some (n, r, true) | .none => Option.none
  | .bool, vs => match popBool vs with | some (n, r) => some (n, r, true) | .none => Option.none
  | .str, vs => match popStr vs with | some (n, r) => some (n, r, true) | .none => Option.none
  | .sl t, vs => match vs with
    | v :: r => match con hp t v with | some (l, b) => some (l, r, b) | .none => Option.none
    | [] => Option.none
  | .nw _ _, _ => Option.none
  | .unit, vs => match popTup vs with
    | some ([], r) => some ((), r, true)
    | _ => .none
  | .none, vs => some ((), vs, true)
  | .one a, vs => a.ext hp vs
  | .cons a q, vs => match a.ext hp vs with
    | some (x, r, b) => match q.ext hp r with
      | some (y, r', b') => some ((x, y), r', b && b')
      | .none => Option.none
    | .none => Option.none
  | .agg l, vs => match popAgg vs with
    | some (cs, r) => match l.ext hp cs with
      | some (x, [], b) => some (x, r, b)
      | _ => Option.none
    | .none => Option.none
  | .tup l, vs => match popTup vs with
    | some (cs, r) => match l.ext hp cs with
      | some (x, [], b) => some (x, r, b)
      | _ => Option.none
    | .none => Option.none

/-- a fresh row among values: its content, what is left, the numbers that are used -/
def popNw (hp : List Blk) (t : Ty) (T : TypeId) (us : List Nat) : List V → Option (List t.den × List V × List Nat × Bool)
  | v :: r => match v with
    | .row k z n c => match hp[k]? with
      | some (.row t' l T' c') => match Nat.beq z t'.size && Nat.beq T T' && !(us.any (Nat.beq k)) with
        | true => match castL t' t l with | some l => some (l, r, k :: us, Nat.beq n l.length && Nat.beq c c') | .none => Option.none
        | false => Option.none
      | _ => Option.none
    | v => match nil? v with | true => some ([], r, us, true) | false => Option.none
  | [] => Option.none

/-- what comes out, read off values: fresh rows are of numbers of their own -/
def RT.out (hp : List Blk) : (a : RT) → List V → List Nat → Option (a.den × List V × List Nat × Bool)
  | .int k, vs, us => match popInt k vs with | some (n, r) => some (n, r, us, true) | .none => Option.none
  | .bool, vs, us => match popBool vs with | some (n, r) => some (n, r, us, true) | .none => Option.none
  | .str, vs, us => match popStr vs with | some (n, r) => some (n, r, us, true) | .none => Option.none
  | .sl t, vs, us => match popSl t vs with | some (n, r) => some (n, r, us, true) | .none => Option.none
  | .nw t T, vs, us => popNw hp t T us vs
  | .unit, vs, us => match popTup vs with
    | some ([], r) => some ((), r, us, true)
    | _ => .none
  | .none, vs, us => some ((), vs, us, true)
  | .one a, vs, us => a.out hp vs us
  | .cons a q, vs, us => match a.out hp vs us with
    | some (x, r, us, b) => match q.out hp r us with
      | some (y, r', us, b') => some ((x, y), r', us, b && b')
      | .none => Option.none
    | .none => Option.none
  | .agg l, vs, us => match popAgg vs with
    | some (cs, r) => match l.out hp cs us with
      | some (x, [], us, b) => some (x, r, us, b)
      | _ => Option.none
    | .none => Option.none
  | .tup l, vs, us => match popTup vs with
    | some (cs, r) => match l.out hp cs us with
      | some (x, [], us, b) => some (x, r, us, b)
      | _ => Option.none
    | .none => Option.none
mutual

/-- fresh rows become blocks of our own -/
def inst : V → List Blk → (V → List Blk → Prop) → Prop
  | .nw t l T, hp, K => ∀ cap : Nat, Nat.ble l.length cap = true → K (.row hp.length t.size l.length cap) (hp ++ [Blk.row t l T cap])
  | .agg cs, hp, K => insts cs hp fun cs hp => K (.agg cs) hp
  | .tup cs, hp, K => insts cs hp fun cs hp => K (.tup cs) hp
  | v, hp, K => K v hp

def insts : List V → List Blk → (List V → List Blk → Prop) → Prop
  | [], hp, K => K [] hp
  | v :: vs, hp, K => inst v hp fun v hp => insts vs hp fun vs hp => K (v :: vs) hp
end

/-- a row of our own is written to no more -/
def ice1 (hp : List Blk) (v : V) : Option (V × List Blk × Bool) := match v with
  | .row k z n c => match hp[k]? with
    | some (.row t l T c') => match Nat.beq z t.size with
      | true => some (.sl t l none, hp.set k (.ice t l T c'), Nat.beq n l.length)
      | false => none
    | some (.ice t l T c') => match Nat.beq z t.size with
      | true => some (.sl t l none, hp, Nat.beq n l.length)
      | false => none
    | _ => none
  | .rs k z o n c => match hp[k]? with
    | some (.row t l T c') => match Nat.beq z t.size with
      | true => some (.sl t ((l.drop o).take n) none, hp.set k (.ice t l T c'), Nat.ble (o + n) l.length)
      | false => none
    | some (.ice t l T c') => match Nat.beq z t.size with
      | true => some (.sl t ((l.drop o).take n) none, hp, Nat.ble (o + n) l.length)
      | false => none
    | _ => none
  | v => some (v, hp, true)
mutual

def ice (hp : List Blk) : V → Option (V × List Blk × Bool)
  | .agg cs => match ices hp cs with | some (cs, hp, b) => some (.agg cs, hp, b) | none => none
  | v => ice1 hp v

def ices (hp : List Blk) : List V → Option (List V × List Blk × Bool)
  | [] => some ([], hp, true)
  | v :: vs => match ice hp v with
    | some (v, hp, b) => match ices hp vs with
      | some (vs, hp, b') => some (v :: vs, hp, b && b')
      | none => none
    | none => none
end

variable (c : Cx)

def tyOf (t : TypeId) (k : TyE → Prop) : Prop := match assoc t c.ty with | some e => k e | none => False

/-- parting -/
def br (b : Bool) (X Y : Prop) : Prop := match b with | true => X | false => Y

/-- a demand on the way -/
structure req (b : Bool) (X : Prop) : Prop where
  h : b = true
  x : X

def pad1 (X : Prop) : Prop := X

/-- the same, as the reading tells it: where it holds anyway it is gone (by the recursor: the kernel shall unfold it last) -/
noncomputable def req0 (b : Bool) (X : Prop) : Prop := @Bool.rec (fun _ => Prop) (pad1 False) X b

/-- the same, as a text tells it -/
noncomputable def rqm (b : Bool) (X : Prop) : Prop := @Bool.rec (fun _ => Prop) False X b

/-- as it is asked for: word by word, or so that what holds anyway is gone -/
def reqc (m : Bool) (b : Bool) (X : Prop) : Prop := match m with | true => req b X | false => req0 b X

/-- the same, so many times -/
def an : Nat → Prop → Prop
  | 0, X => X
  | n + 1, X => X ∧ an n X

theorem an_intro : ∀ (n : Nat) {X : Prop}, X → an n X
  | 0, _, h => h
  | n + 1, _, h => ⟨h, an_intro n h⟩

abbrev vi (n : Int) : V := .int .i64 n

abbrev vu (n : Int) : V := .int .u64 n

abbrev vb (b : Bool) : V := .bool b

abbrev wI (n : Int) : Int := IntKind.wrap .i64 n

/-- a value, and what is demanded -/
abbrev Got := Option (V × Bool)

def yes (v : V) : Got := some (v, true)

def tyO {α : Type} (t : TypeId) (k : TyE → Option α) : Option α := match assoc t c.ty with | some e => k e | none => none

def arith (op : BinOp) (k : IntKind) (a b : Int) : Got :=
  match op with
  | .add => yes (.int k (k.wrap (a + b)))
  | .sub => yes (.int k (k.wrap (a - b)))
  | .mul => yes (.int k (k.wrap (a * b)))
  | .quo => some (.int k (k.wrap (a.tdiv b)), !(b == 0))
  | .rem => some (.int k (a.tmod b), !(b == 0))
  | .and => yes (.int k (k.wrap (BitVec.ofInt k.bits a &&& BitVec.ofInt k.bits b).toNat))
  | .or => yes (.int k (k.wrap (BitVec.ofInt k.bits a ||| BitVec.ofInt k.bits b).toNat))
  | .xor => yes (.int k (k.wrap (BitVec.ofInt k.bits a ^^^ BitVec.ofInt k.bits b).toNat))
  | .andNot => yes (.int k (k.wrap (BitVec.ofInt k.bits a &&& ~~~ BitVec.ofInt k.bits b).toNat))
  | .eql => yes (.bool (a == b))
  | .neq => yes (.bool (a != b))
  | .lss => yes (.bool (decide (a < b)))
  | .leq => yes (.bool (decide (a ≤ b)))
  | .gtr => yes (.bool (decide (a > b)))
  | .geq => yes (.bool (decide (a ≥ b)))
  | .shl => some (.int k (k.wrap (a * 2 ^ (min b.toNat k.bits))), decide (0 ≤ b))
  | .shr => some (.int k (a.fdiv (2 ^ (min b.toNat k.bits))), decide (0 ≤ b))

def isShift : BinOp → Bool
  | .shl | .shr => true
  | _ => false

def eqs (op : BinOp) (r : Bool) : Got := match op with
  | .eql => yes (.bool r)
  | .neq => yes (.bool (!r))
  | _ => none

def isPtr : V → Bool
  | .ptr _ _ | .gp _ _ | .rp _ _ _ _ | .sp _ _ _ => true
  | _ => false

def nilp? : V → Bool
  | .old (.pointer none) => true
  | _ => false

/-- pointers, compared with nil -/
def ptrEq (x y : V) : Option Bool := match nilp? x with
  | true => match nilp? y with
    | true => some true
    | false => match isPtr y with | true => some false | false => none
  | false => match nilp? y && isPtr x with
    | true => some false
    | false => none

def bin (op : BinOp) (t : TypeId) (x y : V) : Got :=
  match x, y with
  | .int k a, .int k' b => match isShift op || kindEq k k' with
    | true => arith op k a b
    | false => none
  | .bool a, .bool b => tyO c t fun e => match e.td with
    | .bool => eqs op (a == b)
    | _ => none
  | .str a, .str b => match op with
    | .add => some (.str (a ++ b), decide (a.size + b.size ≤ 9223372036854775807))
    | .eql => yes (.bool (a.toList == b.toList))
    | .neq => yes (.bool (!(a.toList == b.toList)))
    | .lss => yes (.bool (Op.bytesLess a.toList b.toList))
    | .leq => yes (.bool (Op.bytesLess a.toList b.toList || a.toList == b.toList))
    | .gtr => yes (.bool (!(Op.bytesLess a.toList b.toList || a.toList == b.toList)))
    | .geq => yes (.bool (!(Op.bytesLess a.toList b.toList)))
    | _ => none
  | .agg xs, .agg ys => match assoc t c.eqs with
    | none => none
    | some g => match g xs ys with
      | none => none
      | some r => eqs op r
  | x, y => tyO c t fun e => match e.td with
    | .ptr _ => match ptrEq x y with
      | some r => eqs op r
      | none => none
    | _ => none

def un (op : UnOp) (x : V) : Got :=
  match op, x with
  | .neg, .int k n => yes (.int k (k.wrap (0 - n)))
  | .xor, .int k n => arith .xor k (if k.signed then -1 else k.max) n
  | .not, .bool b => yes (.bool (!b))
  | _, _ => none

def cellsAt (hp : List Blk) (k : Nat) : Option (List V) := match hp[k]? with
  | some (.cells vs) => some vs
  | _ => none

def pt (v : Option V) (b : Bool) : Got := match v with
  | some v => some (v, b)
  | none => none

def andG (g : Got) (b : Bool) : Got := match g with
  | some (v, b') => some (v, b && b')
  | none => none

def fillAt (place : Nat → Option (Nat × Nat)) : List V → List (Nat × V) → Option (List V)
  | cs, [] => some cs
  | cs, (i, v) :: rest => match place i, cellsIf v with
    | some (off, sz), some vc => match Nat.beq vc.length sz && Nat.ble (off + sz) cs.length with
      | true => fillAt place (setAt cs off vc) rest
      | false => none
    | _, _ => none

def placesOf : List (TypeId × Nat) → Option (List (Nat × Nat))
  | [] => some []
  | (t, off) :: l => match assoc t c.ty, placesOf l with
    | some e, some r => some ((off, e.size) :: r)
    | _, _ => none

/-- a bound on the room is given behind one on the length -/
def hiOk (mx hi : Option Operand) : Bool := match mx, hi with
  | some _, none => false
  | _, _ => true

/-- a bound of a slice -/
def bnd (s : S) (x : Option Operand) (d : Nat) (k : Nat → Bool → Got) : Got := match x with
  | none => k d true
  | some x => match s.get x with
    | .int _ j => k j.toNat (decide (0 ≤ j))
    | _ => none

def lenV : V → Option Nat
  | .slc _ _ n _ => some n
  | .row _ _ n _ => some n
  | .rs _ _ _ n _ => some n
  | .sl _ l _ => some l.length
  | .old (.slice _ n _) => some n
  | _ => none

/-- a place by an index (a word of its own: the kernel shall not reckon with its parts) -/
def offN (o : Nat) (j : Int) (z : Nat) : Nat := o + j.toNat * z

def lk_load (s : S) (t : TypeId) (a : Operand) : Got := tyO c t fun e => match s.get a with
    | .ptr k o => match cellsAt s.hp k with
      | some vs => partO e vs o
      | none => none
    | .gp g o => match assoc g c.gs with
      | some (.int k ns) => match isAgg e.td with
        | true => some (.agg ((List.range e.size).map fun i => .int k (ns.getD (o + i) 0)), Nat.ble (o + e.size) ns.length)
        | false => some (.int k (ns.getD o 0), Nat.blt o ns.length)
      | some (.str ss) => match isAgg e.td with
        | true => some (.agg ((List.range e.size).map fun i => .str (ss.getD (o + i) ⟨#[]⟩)), Nat.ble (o + e.size) ss.length)
        | false => some (.str (ss.getD o ⟨#[]⟩), Nat.blt o ss.length)
      | some (.some _) => none
      | none => none
    | .rp k z i f => match rowAt s.hp k with
      | some ⟨t', l⟩ => match Nat.beq z t'.size with
        | true => pt (part e (t'.cells (l.getD i t'.dflt)) f) (Nat.blt i l.length)
        | false => none
      | none => none
    | .sp t' x f => pt (part e (t'.cells x) f) true
    | _ => none

def lk_nilCheck (s : S) (x : Operand) : Got := match s.get x with
    | .ptr k o => yes (.ptr k o)
    | .gp k o => yes (.gp k o)
    | .rp k z i f => yes (.rp k z i f)
    | .sp t x f => yes (.sp t x f)
    | .fn f a b => yes (.fn f a b)
    | _ => none

def lk_convert (s : S) (t : TypeId) (d : TypeId) (x : Operand) : Got := tyO c t fun _ => tyO c d fun e => match e.td with
    | .int k => match s.get x with
      | .int _ n => yes (.int k (k.wrap n))
      | _ => none
    | _ => none

def lk_fieldAddr (s : S) (t : TypeId) (x : Operand) (f : Nat) : Got := tyO c t fun e => match e.td with
    | .st fs => match fs[f]? with
      | some (ft, off) => tyO c ft fun fe => match Nat.beq fe.size 0 with
        | true => none
        | false => match s.get x with
          | .ptr k o => yes (.ptr k (o + off))
          | .gp g o => yes (.gp g (o + off))
          | .rp k z i f => yes (.rp k z i (f + off))
          | .sp t x f => yes (.sp t x (f + off))
          | _ => none
      | none => none
    | _ => none

def lk_field (s : S) (t : TypeId) (x : Operand) (f : Nat) : Got := tyO c t fun e => match e.td with
    | .st fs => match fs[f]? with
      | some (ft, off) => tyO c ft fun fe => match s.get x with
        | .agg cs => pt (part fe cs off) true
        | _ => none
      | none => none
    | _ => none

def lk_extract (s : S) (x : Operand) (i : Nat) : Got := match s.get x with
    | .tup vs => pt vs[i]? true
    | _ => none

def lk_indexAddr (s : S) (t : TypeId) (x : Operand) (i : Operand) : Got := tyO c t fun e => match s.get i with
    | .int _ j => match e.td with
      | .arr n el => tyO c el fun ee => match s.get x with
        | .ptr k o => some (.ptr k (offN o j ee.size), decide (0 ≤ j) && decide (j < n))
        | .gp g o => some (.gp g (offN o j ee.size), decide (0 ≤ j) && decide (j < n))
        | _ => none
      | .slc el => tyO c el fun ee => match s.get x with
        | .slc k o n _ => some (.ptr k (offN o j ee.size), decide (0 ≤ j) && decide (j < n))
        | .row k z n _ => match Nat.beq z ee.size with
          | true => some (.rp k z j.toNat 0, decide (0 ≤ j) && decide (j < n))
          | false => none
        | .rs k z o n _ => match Nat.beq z ee.size with
          | true => some (.rp k z (o + j.toNat) 0, decide (0 ≤ j) && decide (j < n))
          | false => none
        | .sl t' l _ => match Nat.beq t'.size ee.size with
          | true => some (.sp t' (l.getD j.toNat t'.dflt) 0, decide (0 ≤ j) && decide (j < l.length))
          | false => none
        | _ => none
      | _ => none
    | _ => none

def lk_index (s : S) (t : TypeId) (x : Operand) (i : Operand) : Got := tyO c t fun e => match s.get i with
    | .int _ j => match e.td with
      | .arr n el => tyO c el fun ee => match s.get x with
        | .agg cs => andG (partO ee cs (j.toNat * ee.size)) (decide (0 ≤ j) && decide (j < n))
        | _ => none
      | .str => match s.get x with
        | .str b => some (.int .u8 ((b.data.toList.getD j.toNat 0).toNat), decide (0 ≤ j) && decide (j < b.size))
        | _ => none
      | _ => none
    | _ => none

def lk_slice (s : S) (t : TypeId) (x : Operand) (lo : Option Operand) (hi : Option Operand) (mx : Option Operand) : Got := tyO c t fun e => match e.td with
    | .str => match mx with
      | some _ => none
      | none => match s.get x with
        | .str b => bnd s hi b.size fun h b1 => bnd s lo 0 fun l b2 => some (.str (b.extract l h), b1 && Nat.ble h b.size && (b2 && Nat.ble l h))
        | _ => none
    | .slc el => tyO c el fun ee => match s.get x with
      | .sl t' ls cp => match Nat.beq t'.size ee.size with
        | true => bnd s mx ls.length fun m b0 => bnd s hi ls.length fun h b1 => bnd s lo 0 fun l b2 =>
          some (.sl t' ((ls.drop l).take (h - l)) (match mx with | some _ => some (m - l) | none => cp.map (· - l)), hiOk mx hi && b0 && Nat.ble m ls.length && (b1 && Nat.ble h m) && (b2 && Nat.ble l h))
        | false => none
      | .row k z n cp => match Nat.beq z ee.size with
        | true => bnd s mx cp fun m b0 => bnd s hi n fun h b1 => bnd s lo 0 fun l b2 => some (.rs k z l (h - l) (m - l), hiOk mx hi && b0 && Nat.ble m cp && (b1 && Nat.ble h m) && (b2 && Nat.ble l h))
        | false => none
      | .rs k z o n cp => match Nat.beq z ee.size with
        | true => bnd s mx cp fun m b0 => bnd s hi n fun h b1 => bnd s lo 0 fun l b2 => some (.rs k z (o + l) (h - l) (m - l), hiOk mx hi && b0 && Nat.ble m cp && (b1 && Nat.ble h m) && (b2 && Nat.ble l h))
        | false => none
      | .slc k o n cp => bnd s mx cp fun m b0 => bnd s hi n fun h b1 => bnd s lo 0 fun l b2 =>
          some (.slc k (o + l * ee.size) (h - l) (m - l), hiOk mx hi && b0 && Nat.ble m cp && (b1 && Nat.ble h m) && (b2 && Nat.ble l h) && (Nat.beq l 0 || Nat.blt l m))
      | .old (.slice none 0 0) => bnd s mx 0 fun m b0 => bnd s hi 0 fun h b1 => bnd s lo 0 fun l b2 => some (.old (.slice none 0 0), hiOk mx hi && b0 && Nat.ble m 0 && (b1 && Nat.ble h m) && (b2 && Nat.ble l h))
      | _ => none
    | .arr n el => tyO c el fun ee => match s.get x with
      | .ptr k o => bnd s mx n fun m b0 => bnd s hi n fun h b1 => bnd s lo 0 fun l b2 =>
          some (.slc k (o + l * ee.size) (h - l) (m - l), hiOk mx hi && b0 && Nat.ble m n && (b1 && Nat.ble h m) && (b2 && Nat.ble l h) && (Nat.beq l 0 || Nat.blt l m))
      | _ => none
    | _ => none

def lk_build (s : S) (t : TypeId) (parts : Array (Nat × Operand)) : Got := tyO c t fun e => match e.td with
    | .st fs => match placesOf c fs with
      | some pl => match fillAt (pl[·]?) e.zero (parts.toList.map fun p => (p.1, s.get p.2)) with
        | some cs => yes (.agg cs)
        | none => none
      | none => none
    | .arr _ el => tyO c el fun ee => match fillAt (fun i => some (i * ee.size, ee.size)) e.zero (parts.toList.map fun p => (p.1, s.get p.2)) with
      | some cs => yes (.agg cs)
      | none => none
    | _ => none

def lk_makeFunc (s : S) (f : Fn) (first : Array Operand) (caps : Array Operand) : Got := match f with
    | .func f => yes (.fn f (first.toList.map s.get) (caps.toList.map s.get))
    | _ => none

def lk_call (s : S) (cl : Call) : Got := match cl.callee with
    | .builtin b => match cl.args.toList.map s.get with
      | [x] => match b with
        | .len => match cl.argTypes.toList with
          | [t] => tyO c t fun e => match e.td with
            | .slc _ => match lenV x with | some n => yes (.int .i64 n) | none => none
            | .str => match x with | .str x => yes (.int .i64 x.size) | _ => none
            | _ => none
          | _ => none
        | _ => none
      | [.int k a, .int _ b'] => match b with
        | .min => yes (.int k (if b' < a then b' else a))
        | .max => yes (.int k (if b' > a then b' else a))
        | _ => none
      | _ => none
    | _ => none

/-- operations that only look: one value -/
def look (s : S) (o : Oper) : Got :=
  match o.op with
  | .move x => yes (s.get x)
  | .assign x => yes (s.get x)
  | .pick x a b => match s.get x with
    | .bool p => match p with
      | true => yes (s.get a)
      | false => yes (s.get b)
    | _ => none
  | .load t a => lk_load c s t a
  | .nilCheck x => lk_nilCheck s x
  | .binOp op t x y _ => bin c op t (s.get x) (s.get y)
  | .unOp op _ x => un op (s.get x)
  | .convert t d x => lk_convert c s t d x
  | .fieldAddr t x f => lk_fieldAddr c s t x f
  | .field t x f => lk_field c s t x f
  | .extract x i => lk_extract s x i
  | .indexAddr t x i => lk_indexAddr c s t x i
  | .index t x i => lk_index c s t x i
  | .slice t x lo hi mx => lk_slice c s t x lo hi mx
  | .build t parts => lk_build c s t parts
  | .makeFunc f first caps => lk_makeFunc s f first caps
  | .call cl => lk_call c s cl
  | _ => none

/-- what is appended -/
def srcOf (hp : List Blk) (t : Ty) (y : V) : Option (List t.den × List Blk × Bool) := match y with
  | .slc k o n _ => match cellsAt hp k with
    | some vs => match ices hp vs with
      | some (vs', hp', b) => match t.many ((vs'.length - o) / t.size) (vs'.drop o) with
        | some l => some (l.take n, hp', b && Nat.ble n l.length)
        | none => none
      | none => none
    | none => none
  | .str b => match castL (.int .u8) t (b.data.toList.map fun x => ((x.toNat : Nat) : Int)) with
    | some l => some (l, hp, true)
    | none => none
  | y => match con hp t y with
    | some (l, b) => some (l, hp, b)
    | none => none

/-- append; the row becomes one of another number, the one before is forgotten -/
def appendK (s : S) (d : Option Tmp) (t : TypeId) (x y : V) (K : S → Prop) : Prop :=
  tyOf c t fun e => match e.td with
    | .slc el => tyOf c el fun ee => match ee.ty with
      | none => False
      | some ty => match Nat.beq ty.size ee.size && Nat.beq ee.zero.length ee.size with
        | false => False
        | true => match srcOf s.hp ty y with
          | none => False
          | some (ly, hp, b) => match x with
            | .row k z n c0 => match hp[k]? with
              | some (.row t' l T c') => match Nat.beq z t'.size && Nat.beq T el with
                | false => False
                | true => match castL t' ty l with
                  | none => False
                  | some lx => reqc c.m (b && Nat.beq n l.length && Nat.beq c0 c' && Nat.ble ((lx ++ ly).length * (ee.bytes + 1)) 140737488355328)
                      (∀ cap : Nat, Nat.ble (lx ++ ly).length cap = true → K (S.put ⟨s.ts, hp.set k .dead ++ [Blk.row ty (lx ++ ly) el cap], s.marks⟩ d (.row hp.length ty.size (lx ++ ly).length cap)))
              | _ => False
            | .sl t' l (some c0) => match castL t' ty l with
              | none => False
              | some lx => match c0 with
                | 0 => reqc c.m (b && Nat.beq lx.length 0 && Nat.ble (ly.length * (ee.bytes + 1)) 140737488355328)
                    (∀ cap : Nat, Nat.ble ly.length cap = true → K (S.put ⟨s.ts, hp ++ [Blk.row ty ly el cap], s.marks⟩ d (.row hp.length ty.size ly.length cap)))
                | _ => reqc c.m (b && Nat.beq c0 lx.length && Nat.ble ((lx ++ ly).length * (ee.bytes + 1)) 140737488355328)
                    (K (S.put ⟨s.ts, hp, s.marks⟩ d (.sl ty (lx ++ ly) none)))
            | .old (.slice none 0 0) => reqc c.m (b && Nat.ble (ly.length * (ee.bytes + 1)) 140737488355328)
                (∀ cap : Nat, Nat.ble ly.length cap = true → K (S.put ⟨s.ts, hp ++ [Blk.row ty ly el cap], s.marks⟩ d (.row hp.length ty.size ly.length cap)))
            | _ => False
    | _ => False

/-- so many elements that stand in a row of the code itself -/
def slcMore : V → Bool
  | .slc _ _ n _ => Nat.blt 0 n
  | _ => false

def ownRs (k : Nat) : V → Bool
  | .rs k' _ _ _ _ => Nat.beq k k'
  | _ => false

/-- append onto a row's beginning: what lies in the row (in place), or where there is no room; the row becomes one of another number -/
def appendR (s : S) (d : Option Tmp) (t : TypeId) (k z o n c0 : Nat) (y : V) (K : S → Prop) : Prop :=
  tyOf c t fun e => match e.td with
    | .slc el => tyOf c el fun ee => match ee.ty with
      | none => False
      | some ty => match Nat.beq ty.size ee.size && Nat.beq ee.zero.length ee.size with
        | false => False
        | true => match srcOf s.hp ty y with
          | none => False
          | some (ly, hp, b) => match hp[k]? with
            | some (.row t' l T c') => match Nat.beq z t'.size && Nat.beq T el && Nat.beq o 0 with
              | false => False
              | true => match castL t' ty l with
                | none => False
                | some lx => match slcMore y with
                 | true => reqc c.m (b && Nat.ble n lx.length && Nat.beq c0 n && Nat.blt 0 ly.length && Nat.ble ((lx.take n ++ ly).length * (ee.bytes + 1)) 140737488355328)
                      (∀ cap : Nat, Nat.ble (lx.take n ++ ly).length cap = true → K (S.put ⟨s.ts, hp ++ [Blk.row ty (lx.take n ++ ly) el cap], s.marks⟩ d (.row hp.length ty.size (lx.take n ++ ly).length cap)))
                 | false => match ownRs k y with
                  | true => reqc c.m (b && Nat.ble (n + ly.length) lx.length && Nat.beq c0 c' && Nat.ble ((lx.take n ++ ly).length * (ee.bytes + 1)) 140737488355328)
                      (K (S.put ⟨s.ts, hp.set k .dead ++ [Blk.row ty (lx.take n ++ ly) el c'], s.marks⟩ d (.row hp.length ty.size (lx.take n ++ ly).length c')))
                  | false => reqc c.m (b && Nat.ble n lx.length && Nat.beq c0 n && Nat.ble ((lx.take n ++ ly).length * (ee.bytes + 1)) 140737488355328)
                      (∀ cap : Nat, Nat.ble (lx.take n ++ ly).length cap = true → K (S.put ⟨s.ts, hp.set k .dead ++ [Blk.row ty (lx.take n ++ ly) el cap], s.marks⟩ d (.row hp.length ty.size (lx.take n ++ ly).length cap)))
            | _ => False
    | _ => False

/-- append onto a part of a block of cells: nobody writes to the block any more -/
def appendX (s : S) (d : Option Tmp) (t : TypeId) (x y : V) (K : S → Prop) : Prop := match x with
  | .slc k o n cp => tyOf c t fun e => match e.td with
    | .slc el => tyOf c el fun ee => match ee.ty with
      | some ty => match s.hp[k]? with
        | some (.cells vs) => match ty.many ((vs.length - o) / ty.size) (vs.drop o) with
          | some l => reqc c.m (Nat.ble n l.length && Nat.ble n cp) (appendK c ⟨s.ts, s.hp.set k .dead, s.marks⟩ d t (.sl ty (l.take n) (some cp)) y K)
          | none => False
        | _ => False
      | none => False
    | _ => False
  | .rs k z o n c0 => appendR c s d t k z o n c0 y K
  | x => appendK c s d t x y K

/-- clear of what lies behind a row's elements, or of nothing -/
def clearOf (s : S) (o : Oper) : Option Bool := match o.op with
  | .call cl => match cl.callee with
    | .builtin b => match b with
      | .clear => match cl.args.toList with
        | [x] => match cl.argTypes.toList with
          | [t] => tyO c t fun e => match e.td with
            | .slc el => tyO c el fun ee => match s.get x with
              | .rs k z o n _ => match s.hp[k]? with
                | some (.row t' l _ c') => match Nat.beq z t'.size && Nat.beq ee.zero.length z && ee.zero.all one with
                  | true => some (Nat.ble l.length o && Nat.ble (o + n) c')
                  | false => none
                | _ => none
              | .old (.slice none 0 0) => some true
              | _ => none
            | _ => none
          | _ => none
        | _ => none
      | _ => none
    | _ => none
  | _ => none

def srcKind : TD → V → Bool
  | .slc _, _ => true
  | .str, .str _ => true
  | _, _ => false

def appendOf (o : Oper) : Option (TypeId × TypeId × Operand × Operand) := match o.op with
  | .call cl => match cl.callee with
    | .builtin b => match b with
      | .append => match cl.args.toList with
        | [x, y] => match cl.argTypes.toList with
          | [t, t'] => some (t, t', x, y)
          | _ => none
        | _ => none
      | _ => none
    | _ => none
  | _ => none

/-- one of several values that are no numbers, at an open place -/
def fan (j : Int) (K : V → Prop) : Nat → List V → Prop
  | _, [] => False
  | i, v :: vs => br (j == (i : Int)) (K v) (fan j K (i + 1) vs)

def fanOf (s : S) (o : Oper) : Option (Int × List V) := match o.op with
  | .load t a => match s.get a with
    | .ptr k j => match cellsAt s.hp k with
      | some cs => tyO c t fun ee => match !isAgg ee.td && Nat.ble 2 cs.length && (match cs with | .fn _ _ _ :: _ => true | .ptr _ _ :: _ => true | _ => false) with
        | true => some ((j : Int), cs)
        | false => none
      | none => none
    | _ => none
  | .index t x i => match s.get i with
    | .int _ j => match s.get x with
      | .agg cs => tyO c t fun e => match e.td with
        | .arr n el => tyO c el fun ee => match Nat.beq ee.size 1 && !isAgg ee.td && Nat.beq n cs.length && Nat.ble 2 n && (match cs with | .fn _ _ _ :: _ => true | .ptr _ _ :: _ => true | _ => false) with
          | true => some (j, cs)
          | false => none
        | _ => none
      | _ => none
    | _ => none
  | _ => none

/-- rows, compared with nil: how many elements -/
def nilCmp (s : S) (o : Oper) : Option (TypeId × Nat × Bool) := match o.op with
  | .binOp .eql t x y _ => match s.get y with
    | .old (.slice none 0 0) => match s.get x with
      | .sl _ l _ => some (t, l.length, true)
      | .row _ _ n _ => some (t, n, true)
      | .rs _ _ _ n _ => some (t, n, true)
      | _ => none
    | _ => none
  | .binOp .neq t x y _ => match s.get y with
    | .old (.slice none 0 0) => match s.get x with
      | .sl _ l _ => some (t, l.length, false)
      | .row _ _ n _ => some (t, n, false)
      | .rs _ _ _ n _ => some (t, n, false)
      | _ => none
    | _ => none
  | _ => none

def nilV (cc : Bool) : V → Option Bool
  | .old (.slice none 0 0) => some true
  | .slc _ _ _ _ => some false
  | .row _ _ n _ => match cc && Nat.blt 0 n with | true => some false | false => none
  | .rs _ _ _ n _ => match cc && Nat.blt 0 n with | true => some false | false => none
  | .sl _ l _ => match cc && Nat.blt 0 l.length with | true => some false | false => none
  | _ => none

/-- rows of which it is known whether they are nil -/
def nilKnown (s : S) (o : Oper) : Option (TypeId × Bool) := match o.op with
  | .binOp op t x y _ => match s.get y with
    | .old (.slice none 0 0) => match nilV c.cc (s.get x) with
      | some b => match op with
        | .eql => some (t, b)
        | .neq => some (t, !b)
        | _ => none
      | none => none
    | _ => none
  | _ => none

/-- what stands in a map -/
def lookM (j : Int) (K : V → Prop) : List (Int × V) → Prop
  | [] => False
  | (i, v) :: l => br (j == i) (K v) (lookM j K l)

/-- the text of bytes -/
def bytesOf (l : List Int) : ByteArray := ⟨(l.map fun n => UInt8.ofNat n.toNat).toArray⟩

/-- a row of bytes as a text -/
def strOf (s : S) (o : Oper) : Option (List Int × Bool) := match o.op with
  | .convert t d x => match assoc t c.ty with
    | some e => match e.td with
      | .slc el => match assoc el c.ty with
        | some ee => match ee.td with
          | .int .u8 => match assoc d c.ty with
            | some de => match de.td with
              | .str => con s.hp (.int .u8) (s.get x)
              | _ => none
            | none => none
          | _ => none
        | none => none
      | _ => none
    | none => none
  | _ => none
mutual

/-- what follows, with a value that stands in full -/
def forceV : V → (V → Prop) → Prop
  | .agg cs, k => forceVs cs fun cs => k (.agg cs)
  | .tup cs, k => forceVs cs fun cs => k (.tup cs)
  | .fn f a b, k => forceVs a fun a => forceVs b fun b => k (.fn f a b)
  | .any, k => k .any
  | .bool b, k => k (.bool b)
  | .int x n, k => k (.int x n)
  | .str t, k => k (.str t)
  | .ptr a b, k => k (.ptr a b)
  | .gp a b, k => k (.gp a b)
  | .slc a b c d, k => k (.slc a b c d)
  | .yld a, k => k (.yld a)
  | .old a, k => k (.old a)
  | .row a b c d, k => k (.row a b c d)
  | .rs a b c d e, k => k (.rs a b c d e)
  | .rp a b c d, k => k (.rp a b c d)
  | .sl a b c, k => k (.sl a b c)
  | .sp a b c, k => k (.sp a b c)
  | .nw a b c, k => k (.nw a b c)
  | .mp a, k => k (.mp a)

def forceVs : List V → (List V → Prop) → Prop
  | [], k => k []
  | v :: l, k => forceV v fun v => forceVs l fun l => k (v :: l)
end

def forceTs : List (Nat × V) → (List (Nat × V) → Prop) → Prop
  | [], k => k []
  | (n, v) :: l, k => forceV v fun v => forceTs l fun l => k ((n, v) :: l)

/-- the row of blocks alone: what is written stands in full when it is written -/
def forceHp : List Blk → (List Blk → Prop) → Prop
  | [], k => k []
  | b :: l, k => forceHp l fun l => k (b :: l)

def forceS (s : S) (k : S → Prop) : Prop := forceTs s.ts fun ts => forceHp s.hp fun hp => k ⟨ts, hp, s.marks⟩
mutual

theorem forceV_eq : ∀ (v : V) (k : V → Prop), forceV v k = k v
  | .agg cs, k => by simp only [forceV]; exact forceVs_eq cs _
  | .tup cs, k => by simp only [forceV]; exact forceVs_eq cs _
  | .fn f a b, k => by simp only [forceV]; rw [forceVs_eq a, forceVs_eq b]
  | .any, k | .bool _, k | .int _ _, k | .str _, k | .ptr _ _, k | .gp _ _, k | .slc _ _ _ _, k | .yld _, k | .old _, k | .row _ _ _ _, k | .rs _ _ _ _ _, k | .rp _ _ _ _, k | .sl _ _ _, k | .sp _ _ _, k | .nw _ _ _, k | .mp _, k => by simp only [forceV]

theorem forceVs_eq : ∀ (l : List V) (k : List V → Prop), forceVs l k = k l
  | [], k => by simp only [forceVs]
  | v :: l, k => by simp only [forceVs]; rw [forceV_eq v, forceVs_eq l]
end

theorem forceTs_eq : ∀ (l : List (Nat × V)) (k : List (Nat × V) → Prop), forceTs l k = k l
  | [], k => rfl
  | (n, v) :: l, k => by simp only [forceTs]; rw [forceV_eq v, forceTs_eq l]

theorem forceHp_eq : ∀ (l : List Blk) (k : List Blk → Prop), forceHp l k = k l
  | [], k => rfl
  | b :: l, k => by simp only [forceHp]; rw [forceHp_eq l]

theorem forceS_eq (s : S) (k : S → Prop) : forceS s k = k s := by unfold forceS; rw [forceTs_eq, forceHp_eq]

noncomputable def ac_box (s : S) (o : Oper) (t : TypeId) (x : Operand) (K : S → Prop) : Prop := match cellsIf (s.get x) with
    | some cs => forceVs cs fun cs => K (S.put ⟨s.ts, s.hp ++ [Blk.cells cs], s.marks⟩ o.dst (.ptr s.hp.length 0))
    | none => False

noncomputable def ac_alloc (s : S) (o : Oper) (t : TypeId) (K : S → Prop) : Prop := tyOf c t fun e => forceVs e.zero fun cs => K (S.put ⟨s.ts, s.hp ++ [Blk.cells cs], s.marks⟩ o.dst (.ptr s.hp.length 0))

noncomputable def ac_buildSlice (s : S) (o : Oper) (t : TypeId) (n : Nat) (parts : Array (Nat × Operand)) (K : S → Prop) : Prop := tyOf c t fun e => match e.td with
    | .slc el => tyOf c el fun ee => match Nat.beq (n + ee.size) ee.size && parts.toList.isEmpty with
      | true => match ee.ty with
        | some ty => K (S.put ⟨s.ts, s.hp ++ [Blk.dead], s.marks⟩ o.dst (.sl ty [] (some 0)))
        | none => False
      | false => match Nat.ble (n * ee.size) 1000 && !(Nat.beq (n * ee.size) 0) && Nat.beq ee.zero.length ee.size with
        | true => match fillAt (fun i => some (i * ee.size, ee.size)) ((List.range (n * ee.size)).map fun i => ee.zero.getD (i % ee.size) .any) (parts.toList.map fun p => (p.1, s.get p.2)) with
          | some cs => match c.rw.any (Nat.beq t) with
            | false => forceVs cs fun cs => K (S.put ⟨s.ts, s.hp ++ [Blk.cells cs], s.marks⟩ o.dst (.slc s.hp.length 0 n n))
            | true => match ee.ty with
              | some ty => match Nat.beq ty.size ee.size with
                | true => match ty.many n cs with
                  | some l => K (S.put ⟨s.ts, s.hp ++ [Blk.row ty l el n], s.marks⟩ o.dst (.row s.hp.length ee.size n n))
                  | none => False
                | false => False
              | none => False
          | none => False
        | false => False
    | _ => False

noncomputable def ac_makeSlice (s : S) (o : Oper) (t : TypeId) (l : Operand) (m : Operand) (K : S → Prop) : Prop := tyOf c t fun e => match e.td with
    | .slc el => tyOf c el fun ee => match s.get l, s.get m with
      | .int _ n, .int _ cp => match ee.ty with
        | some ty => match Nat.beq ty.size ee.size && Nat.beq ee.zero.length ee.size with
          | true => match ty.whole ee.zero with
            | some z => reqc c.m (decide (0 ≤ n) && decide (n ≤ cp) && Nat.ble (ee.bytes * cp.toNat) 281474976710656 && Nat.ble cp.toNat 9223372036854775807)
                (K (S.put ⟨s.ts, s.hp ++ [Blk.row ty (List.replicate n.toNat z) el cp.toNat], s.marks⟩ o.dst (.row s.hp.length ee.size n.toNat cp.toNat)))
            | none => False
          | false => False
        | none => False
      | _, _ => False
    | _ => False

noncomputable def ac_store (s : S) (o : Oper) (t : TypeId) (a : Operand) (x : Operand) (K : S → Prop) : Prop := tyOf c t fun e => match s.get a with
    | .ptr k o' => match cellsAt s.hp k, cellsIf (s.get x) with
      | some vs, some us => match openI vs us with
        | some (k', y) => match Nat.beq e.size 1 with
          | true => reqc c.m (Nat.blt o' vs.length) (forceVs (putI k' o' y 0 vs) fun cs => K (S.put ⟨s.ts, s.hp.set k (.cells cs), s.marks⟩ o.dst (.tup [])))
          | false => False
        | none => match Nat.beq us.length e.size && Nat.ble (o' + e.size) vs.length && us.all one with
          | true => forceVs (setAt vs o' us) fun cs => K (S.put ⟨s.ts, s.hp.set k (.cells cs), s.marks⟩ o.dst (.tup []))
          | false => False
      | _, _ => False
    | .rp k z i f => match cellsIf (s.get x) with
      | some us => match ices s.hp us with
        | some (us', hp, b) => match hp[k]? with
          | some (.row t' l T cp) => match Nat.beq z t'.size && Nat.beq us'.length e.size && Nat.ble (f + e.size) t'.size && us'.all one with
            | true => match t'.whole (setAt (t'.cells (l.getD i t'.dflt)) f us') with
              | some y => reqc c.m (b && Nat.blt i l.length) (K (S.put ⟨s.ts, hp.set k (.row t' (l.set i y) T cp), s.marks⟩ o.dst (.tup [])))
              | none => False
            | false => False
          | _ => False
        | none => False
      | none => False
    | _ => False

noncomputable def ac_range (s : S) (o : Oper) (t : TypeId) (x : Operand) (K : S → Prop) : Prop := tyOf c t fun e => match e.td with
    | .str => match s.get x with
      | .str b => K (S.put ⟨s.ts, s.hp ++ [Blk.iter b 0], s.marks⟩ o.dst (.ptr s.hp.length 0))
      | _ => False
    | _ => False

noncomputable def ac_next (s : S) (o : Oper) (x : Operand) (st : Bool) (K : S → Prop) : Prop := match st with
    | false => False
    | true => match s.get x with
      | .ptr k 0 => match s.hp[k]? with
        | some (.iter b pos) => br (decide (pos < b.size)) (K (S.put ⟨s.ts, s.hp.set k (.iter b (pos + (Utf8.decode b pos).2)), s.marks⟩ o.dst (.tup [.bool true, .int .i64 ((pos : Nat) : Int), .int .i32 (Utf8.decode b pos).1]))) (K (s.put o.dst (.tup [.bool false])))
        | _ => False
      | _ => False

noncomputable def ac_makeMap (s : S) (o : Oper) (t : TypeId) (r : Option Operand) (K : S → Prop) : Prop := match r with
  | some _ => False
  | none => tyOf c t fun e => match e.td with
    | .mp k _ => tyOf c k fun ke => match ke.td with
      | .int kd => K (S.put ⟨s.ts, s.hp ++ [Blk.map kd []], s.marks⟩ o.dst (.mp s.hp.length))
      | _ => False
    | _ => False

noncomputable def ac_insert (s : S) (o : Oper) (t : TypeId) (m key x : Operand) (K : S → Prop) : Prop := tyOf c t fun e => match e.td with
  | .mp k _ => tyOf c k fun ke => match ke.td with
    | .int kd => match s.get m with
      | .mp b => match s.hp[b]? with
        | some (.map kd' es) => match s.get key with
          | .int kd'' j => match kindEq kd kd' && kindEq kd kd'' with
            | true => reqc c.m (es.all fun e => !(j == e.1)) (K (S.put ⟨s.ts, s.hp.set b (.map kd' (es ++ [(j, s.get x)])), s.marks⟩ o.dst (.tup [])))
            | false => False
          | _ => False
        | _ => False
      | _ => False
    | _ => False
  | _ => False

noncomputable def ac_lookup (s : S) (o : Oper) (t : TypeId) (m key : Operand) (ok : Bool) (K : S → Prop) : Prop := match ok with
  | true => False
  | false => tyOf c t fun e => match e.td with
    | .mp k _ => tyOf c k fun ke => match ke.td with
      | .int kd => match s.get m with
        | .mp b => match s.hp[b]? with
          | some (.map kd' es) => match s.get key with
            | .int kd'' j => match kindEq kd kd' && kindEq kd kd'' with
              | true => lookM j (fun v => K (s.put o.dst v)) es
              | false => False
            | _ => False
          | _ => False
        | _ => False
      | _ => False
    | _ => False

noncomputable def ac_rest (s : S) (o : Oper) (K : S → Prop) : Prop := match nilKnown c s o with
  | some (t, b) => tyOf c t fun e => match e.td with
    | .slc _ => K (s.put o.dst (.bool b))
    | _ => False
  | none => match nilCmp s o with
    | some (t, n, b) => tyOf c t fun e => match e.td with
      | .slc _ => (Nat.beq n 0 = true → K (s.put o.dst (.bool b))) ∧ K (s.put o.dst (.bool (!b)))
      | _ => False
    | none => match appendOf o with
      | some (t, t', x, y) => tyOf c t' fun e' => match srcKind e'.td (s.get y) with
        | true => appendX c s o.dst t (s.get x) (s.get y) K
        | false => False
      | none => match fanOf c s o with
        | some (j, cs) => fan j (fun v => K (s.put o.dst v)) 0 cs
        | none => match strOf c s o with
          | some (l, b) => reqc c.m b (K (s.put o.dst (.str (bytesOf l))))
          | none => match clearOf c s o with
            | some b => reqc c.m b (K (s.put o.dst (.tup [])))
            | none => match look c s o with
              | some (v, b) => reqc c.m b (K (s.put o.dst v))
              | none => False

/-- operations that are nothing but a look -/
def isNilS : V → Bool
  | .old (.slice none 0 0) => true
  | _ => false

def plainOp (s : S) (o : Oper) : Bool := match o.op with
  | .move _ | .assign _ | .pick _ _ _ | .nilCheck _ | .unOp _ _ _ | .fieldAddr _ _ _ | .field _ _ _ | .extract _ _ | .indexAddr _ _ _ | .build _ _ | .makeFunc _ _ _ | .slice _ _ _ _ _ => true
  | .binOp _ _ _ y _ => !(isNilS (s.get y))
  | _ => false

noncomputable def ac_look (s : S) (o : Oper) (K : S → Prop) : Prop := match look c s o with
  | some (v, b) => reqc c.m b (K (s.put o.dst v))
  | none => False

/-- operations that make memory, or write to it -/
noncomputable def act (s : S) (o : Oper) (K : S → Prop) : Prop :=
  match o.op with
  | .box t x => ac_box s o t x K
  | .alloc t => ac_alloc c s o t K
  | .buildSlice t n parts => ac_buildSlice c s o t n parts K
  | .makeSlice t l m => ac_makeSlice c s o t l m K
  | .store t a x => ac_store c s o t a x K
  | .range t x => ac_range c s o t x K
  | .next x st => ac_next s o x st K
  | .makeMap t r => ac_makeMap c s o t r K
  | .insert t m k x => ac_insert c s o t m k x K
  | .mapUpdate t m k x => ac_insert c s o t m k x K
  | .lookup t m k ok => ac_lookup c s o t m k ok K
  | _ => match plainOp s o with
    | true => ac_look c s o K
    | false => ac_rest c s o K

/-- parting at a guard -/
def guardOf (ops : Array Oper) (s : S) (o : Oper) (K : Bool → S → Prop) : Prop :=
  match o.guard with
  | none => K true s
  | some (j, want) => match (ops[j]?).bind (·.dst) with
    | none => False
    | some t => match find t s.ts with
      | .bool b => br b (K want ⟨ins t (.bool true) s.ts, s.hp, s.marks⟩) (K (!want) ⟨ins t (.bool false) s.ts, s.hp, s.marks⟩)
      | .tup _ => K false s
      | _ => False

inductive Ret where
  | normal | ret | exit (id : Nat)

def callOf (o : Oper) : Option (Operand × Array Operand) := match o.op with
  | .call cl => match cl.callee with | .value f => some (f, cl.args) | _ => none
  | _ => none

abbrev CV := V → List V → List Blk → (V → List Blk → Prop) → Prop

def astep (cv : CV) (o : Oper) (s : S) (K : S → Prop) : Prop := match callOf o with
  | some (f, args) => cv (s.get f) (args.toList.map s.get) s.hp fun v hp => K (S.put ⟨s.ts, hp, s.marks⟩ o.dst v)
  | none => act c s o K

def aops (cv : CV) (ops : Array Oper) (K : S → Prop) : List Oper → S → Prop
  | [], s => K s
  | o :: l, s => guardOf ops s o fun go s => match go with
    | false => aops cv ops K l (s.put o.dst (.tup []))
    | true => astep c cv o s fun s => aops cv ops K l s

mutual

/-- nothing of it is unknown -/
def solid : V → Bool
  | .any | .row _ _ _ _ | .rs _ _ _ _ _ | .sl _ _ _ | .sp _ _ _ | .nw _ _ _ => false
  | .fn _ a b => solids a && solids b
  | .agg cs => solids cs
  | .tup cs => solids cs
  | _ => true

def solids : List V → Bool
  | [] => true
  | v :: vs => solid v && solids vs
end

/-- an operation that leaves memory alone -/
def headable (o : Oper) : Bool := match o.op with
  | .box _ _ | .alloc _ | .buildSlice _ _ _ | .store _ _ _ | .makeSlice _ _ _ | .range _ _ | .next _ _ | .makeMap _ _ | .insert _ _ _ _ | .mapUpdate _ _ _ _ | .lookup _ _ _ _ => false
  | .convert _ d _ => match assoc d c.ty with
    | some e => match e.td with | .str => false | _ => true
    | none => true
  | .call cl => match cl.callee with
    | .value (.func f) => match assoc f c.fns with | some (.fx _ B _) => B.plain | some (.fn _ B _ _) => B.plain | _ => false
    | .builtin b => match b with | .len | .min | .max => true | _ => false
    | _ => false
  | _ => true

def headN : List Oper → Nat
  | [] => 0
  | o :: l => match headable c o with | true => headN l + 1 | false => 0

/-- the one value of a list -/
def single : List V → V
  | [v] => v
  | _ => .any

def qcall (hp : List Blk) (v : V) (args : List V) (K : V → Prop) : Prop := match v with
  | .fn f a b => match assoc f c.fns with
    | some (.fx A B R) => match A.ext hp (a ++ args ++ b) with
      | some (x, [], d) => reqc c.m (d && B.plain) (∃ y, R x y ∧ K (single (B.shape y)))
      | _ => False
    | some (.fn A B g pre) => match A.ext hp (a ++ args ++ b) with
      | some (x, [], d) => reqc c.m (d && B.plain && pre x) (K (single (B.shape (g x))))
      | _ => False
    | _ => False
  | _ => False

def ahead (ops : Array Oper) (K : S → Prop) : List Oper → S → Prop
  | [], s => K s
  | o :: l, s => guardOf ops s o fun go s => match go with
    | false => ahead ops K l (s.put o.dst (.tup []))
    | true => match callOf o with
      | some (f, args) => qcall c s.hp (s.get f) (args.toList.map s.get) fun v => ahead ops K l (s.put o.dst v)
      | none => match look c s o with
        | some (v, b) => reqc c.m b (ahead ops K l (s.put o.dst v))
        | none => False

def isFn : V → Bool
  | .fn _ _ _ => true
  | _ => false

def cvF (cv : CV) : CV := fun v args hp K => match isFn v with | true => cv v args hp K | false => False

/-- a region whose order is drawn: what only looks ahead, the rest in the one order that there is -/
def adraw (cv : CV) (ops : Array Oper) (K : S → Prop) (s : S) : Prop :=
  match Nat.beq (headN c ops.toList) ops.toList.length with
  | true => reqc c.m (Region.lexB .any ops) (ahead c ops K ops.toList s)
  | false => reqc c.m (Region.lexTailB .any ops (headN c ops.toList)) (ahead c ops (aops c (cvF cv) ops K (ops.toList.drop (headN c ops.toList))) (ops.toList.take (headN c ops.toList)) s)

def allR (p : Nat → Prop) : List Nat → Prop
  | [] => True
  | [i] => p i
  | i :: l => p i ∧ allR p l

/-- operations that ask nothing of memory -/
def isLoad (o : Oper) : Bool := match o.op with
  | .load _ _ => true
  | _ => false

def calmLook (s : S) (o : Oper) : Got := match o.op with
  | .load _ _ => none
  | .call _ => none
  | _ => look c s o

def noGuard (o : Oper) : Bool := match o.guard with | none => true | some _ => false

/-- one that may be taken first -/
def takeOf (s : S) (ops : Array Oper) (listed : Array Bool) : List Nat → Option (Nat × Oper × V × Bool)
  | [] => none
  | i :: l => match ops[i]? with
    | some o => match noGuard o && Region.free .any ops listed i with
      | true => match calmLook c s o with
        | some (v, b) => some (i, o, v, b)
        | none => takeOf s ops listed l
      | false => takeOf s ops listed l
    | none => takeOf s ops listed l

def takeT (tk : Bool) (s : S) (ops : Array Oper) (listed : Array Bool) (l : List Nat) : Option (Nat × Oper × V × Bool) := match tk && Region.noSelect ops with
  | true => takeOf c s ops listed l
  | false => none

/-- a region whose order is drawn: whatever the order is (tk: calm operations are taken first) -/
def aany (cv : CV) (ops : Array Oper) (K : S → Prop) (tk : Bool) : Nat → Array Bool → S → Prop
  | 0, listed, s => match Region.ready .any ops listed with
    | [] => K s
    | _ :: _ => False
  | f + 1, listed, s => match Region.ready .any ops listed with
    | [] => K s
    | i :: l => match takeT c tk s ops listed (i :: l) with
      | some (i, o, v, b) => reqc c.m b (aany cv ops K tk f (listed.setIfInBounds i true) (s.put o.dst v))
      | none => allR (fun i => match ops[i]? with
        | some o => guardOf ops s o fun go s => match go with
          | false => aany cv ops K tk f (listed.setIfInBounds i true) (s.put o.dst (.tup []))
          | true => astep c cv o s fun s => aany cv ops K tk f (listed.setIfInBounds i true) s
        | none => False) (i :: l)

/-- a call of what is known -/
def contrB (o : Oper) : Bool := match o.op with
  | .call cl => match cl.callee with
    | .value (.func f) => match assoc f c.fns with | some (.fx _ _ _) => true | some (.fn _ _ _ _) => true | _ => false
    | _ => false
  | _ => false

def ecall (v : V) (args : List V) (hp : List Blk) (K : V → List Blk → Prop) : Prop := match v with
  | .fn f a b => match assoc f c.fns with
    | some (.fx A B R) => match B.flat with
      | true => match A.ext hp (a ++ args ++ b) with
        | some (x, [], d) => reqc c.m d (∃ y, R x y ∧ inst (single (B.shape y)) hp K)
        | _ => False
      | false => match ices hp (a ++ args ++ b) with
        | some (vs, hp, d') => match A.ext [] vs with
          | some (x, [], d) => reqc c.m (d' && d) (∃ y, R x y ∧ inst (single (B.shape y)) hp K)
          | _ => False
        | none => False
    | some (.fn A B g pre) => match B.flat with
      | true => match A.ext hp (a ++ args ++ b) with
        | some (x, [], d) => reqc c.m (d && pre x) (inst (single (B.shape (g x))) hp K)
        | _ => False
      | false => match ices hp (a ++ args ++ b) with
        | some (vs, hp, d') => match A.ext [] vs with
          | some (x, [], d) => reqc c.m (d' && d && pre x) (inst (single (B.shape (g x))) hp K)
          | _ => False
        | none => False
    | _ => False
  | _ => False

/-- an operation that leaves old memory as it is -/
def stillB (o : Oper) : Bool := match headable c o with
  | true => true
  | false => match o.op with | .box _ _ | .alloc _ | .buildSlice _ _ _ => true | _ => contrB c o

def stillAt (ops : Array Oper) (j : Nat) : Bool := match ops[j]? with | some o => stillB c o | none => true

/-- which operations stand behind the i-th one -/
def reachL (i : Nat) : List Oper → List Bool → List Bool
  | [], acc => acc
  | o :: l, acc => reachL i l (acc ++ [Nat.beq acc.length i || o.after.toList.any fun e => Region.binds .any e && acc.getD e.on false])

/-- whatever is left and touches old memory stands behind the i-th one -/
def lateB (ops : Array Oper) (listed : Array Bool) (i : Nat) : Bool :=
  (List.range ops.size).all fun j => listed.getD j true || ((reachL i ops.toList []).getD j false || stillAt c ops j)

def forceB : List Bool → (List Bool → Prop) → Prop
  | [], k => k []
  | true :: l, k => forceB l fun l => k (true :: l)
  | false :: l, k => forceB l fun l => k (false :: l)

/-- what follows, with a list that stands in full -/
def forceL (a : Array Bool) (k : Array Bool → Prop) : Prop := forceB a.toList fun l => k ⟨l⟩

theorem forceB_eq : ∀ (l : List Bool) (k : List Bool → Prop), forceB l k = k l
  | [], k => rfl
  | true :: l, k => by simp only [forceB]; rw [forceB_eq l]
  | false :: l, k => by simp only [forceB]; rw [forceB_eq l]

theorem forceL_eq (a : Array Bool) (k : Array Bool → Prop) : forceL a k = k a := by unfold forceL; rw [forceB_eq]

/-- what an operation's guard says, where it is known -/
def goOf (ops : Array Oper) (s : S) (o : Oper) : Option Bool := match o.guard with
  | none => some true
  | some (j, want) => match (ops[j]?).bind (·.dst) with
    | none => none
    | some t => match find t s.ts with
      | .bool b => some (match b with | true => want | false => !want)
      | .tup _ => some false
      | _ => none

def setT (n : Nat) (v : V) : List (Nat × V) → List (Nat × V)
  | [] => []
  | (m, u) :: l => match Nat.beq m n with | true => (m, v) :: l | false => (m, u) :: setT n v l

/-- parted at the guards of those that are ready -/
def splits (ops : Array Oper) (K : S → Prop) : List Nat → S → Prop
  | [], s => K s
  | i :: l, s => match (ops[i]?).bind (·.guard) with
    | none => splits ops K l s
    | some (j, _) => match (ops[j]?).bind (·.dst) with
      | none => splits ops K l s
      | some t => match find t s.ts with
        | .bool b => br b (splits ops K l ⟨setT t (.bool true) s.ts, s.hp, s.marks⟩) (splits ops K l ⟨setT t (.bool false) s.ts, s.hp, s.marks⟩)
        | _ => splits ops K l s

def takeOf2 (s : S) (ops : Array Oper) (listed : Array Bool) : List Nat → Option (Nat × Oper × V × Bool)
  | [] => none
  | i :: l => match ops[i]? with
    | some o => match Region.free .any ops listed i with
      | true => match goOf ops s o with
        | none => takeOf2 s ops listed l
        | some false => some (i, o, .tup [], true)
        | some true => match isLoad o with
          | true => match lateB c ops listed i with
            | true => match look c s o with
              | some (v, b) => some (i, o, v, b)
              | none => takeOf2 s ops listed l
            | false => takeOf2 s ops listed l
          | false => match calmLook c s o with
            | some (v, b) => some (i, o, v, b)
            | none => takeOf2 s ops listed l
      | false => takeOf2 s ops listed l
    | none => takeOf2 s ops listed l

def takeT2 (s : S) (ops : Array Oper) (listed : Array Bool) (l : List Nat) : Option (Nat × Oper × V × Bool) := match Region.noSelect ops with
  | true => takeOf2 c s ops listed l
  | false => none

/-- a region whose order is drawn: calm operations are taken first, and loads where what writes stands behind them -/
def aany2 (cv : CV) (ops : Array Oper) (K : S → Prop) : Nat → Array Bool → S → Prop
  | 0, listed, s => match Region.ready .any ops listed with
    | [] => K s
    | _ :: _ => False
  | f + 1, listed, s => match Region.ready .any ops listed with
    | [] => K s
    | i :: l => splits ops (fun s => match takeT2 c s ops listed (i :: l) with
      | some (i, o, v, b) => reqc c.m b (forceL (listed.setIfInBounds i true) fun listed => aany2 cv ops K f listed (s.put o.dst v))
      | none => allR (fun i => match ops[i]? with
        | some o => guardOf ops s o fun go s => match go with
          | false => forceL (listed.setIfInBounds i true) fun listed => aany2 cv ops K f listed (s.put o.dst (.tup []))
          | true => match headable c o with
            | true => match callOf o with
              | some (f', args) => qcall c s.hp (s.get f') (args.toList.map s.get) fun v => forceL (listed.setIfInBounds i true) fun listed => aany2 cv ops K f listed (s.put o.dst v)
              | none => match look c s o with
                | some (v, b) => reqc c.m b (forceL (listed.setIfInBounds i true) fun listed => aany2 cv ops K f listed (s.put o.dst v))
                | none => False
            | false => match contrB c o with
              | true => match callOf o with
                | some (f', args) => ecall c (s.get f') (args.toList.map s.get) s.hp fun v hp => forceL (listed.setIfInBounds i true) fun listed => aany2 cv ops K f listed (S.put ⟨s.ts, hp, s.marks⟩ o.dst v)
                | none => False
              | false => astep c (cvF cv) o s fun s => forceL (listed.setIfInBounds i true) fun listed => aany2 cv ops K f listed s
        | none => False) (i :: l)) (i :: l) s

def drawB (ops : Array Oper) : Bool := match Nat.beq (headN c ops.toList) ops.toList.length with
  | true => Region.lexB .any ops
  | false => Region.lexTailB .any ops (headN c ops.toList)

def keep (ok : Nat → Bool) (s : S) : S := ⟨sortT (s.ts.filter fun p => ok p.1), s.hp, s.marks⟩
mutual

def inN (n : Nat) : V → Bool
  | .ptr k _ => Nat.blt k n
  | .slc k _ _ _ => Nat.blt k n
  | .yld k => Nat.blt k n
  | .row k _ _ _ => Nat.blt k n
  | .rs k _ _ _ _ => Nat.blt k n
  | .rp k _ _ _ => Nat.blt k n
  | .mp k => Nat.blt k n
  | .fn _ a b => inNs n a && inNs n b
  | .agg cs => inNs n cs
  | .tup cs => inNs n cs
  | _ => true

def inNs (n : Nat) : List V → Bool
  | [] => true
  | v :: vs => inN n v && inNs n vs
end

def inNT (n : Nat) : List (Nat × V) → Bool
  | [] => true
  | (_, v) :: l => inN n v && inNT n l

def inNB (n : Nat) : Blk → Bool
  | .cells vs => inNs n vs
  | .loop _ _ r => inNT n r.ts && Nat.blt r.d n
  | .map _ es => inNs n (es.map (·.2))
  | _ => true

def inNH (n : Nat) : List Blk → Bool
  | [] => true
  | b :: l => inNB n b && inNH n l

def inNM (n : Nat) : List Nat → Bool
  | [] => true
  | k :: l => Nat.blt k n && inNM n l

/-- v' tells no more than v -/
def weakV (v v' : V) : Prop := v' = v ∨ v' = .any ∨ (v = .old (.slice none 0 0) ∧ ((∃ k z, v' = .row k z 0 0) ∨ ∃ t, v' = .sl t [] none)) ∨ (∃ k z n c, v = .row k z n c ∧ v' = .rs k z 0 n c) ∨ (∃ t l c, v = .sl t l c ∧ v' = .sl t l none)

def weakVs : List V → List V → Prop
  | [], [] => True
  | v :: vs, v' :: vs' => weakV v v' ∧ weakVs vs vs'
  | _, _ => False

/-- the state s is one of those that s' tells of -/
def weakT (ts : List (Nat × V)) : List (Nat × V) → Prop
  | [] => True
  | (n, v) :: l => weakV (find n ts) v ∧ weakT ts l

def weakB (b b' : Blk) : Prop := b' = b ∨ b' = .dead ∨ (∃ t T, b' = .row t [] T 0) ∨ (match b, b' with | .cells vs, .cells vs' => weakVs vs vs' | .loop st pend r, .loop st' pend' r' => st' = st ∧ pend' = pend ∧ r'.f = r.f ∧ r'.ps = r.ps ∧ r'.assign = r.assign ∧ r'.body = r.body ∧ r'.d = r.d ∧ weakT r.ts r'.ts | _, _ => False)

/-- the first blocks; what is there more are rows without elements -/
def weakH : List Blk → List Blk → Prop
  | _, [] => True
  | [], b :: l => (∃ t T, b = .row t [] T 0) ∧ weakH [] l
  | b :: l, b' :: l' => weakB b b' ∧ weakH l l'

def weak (N : Nat) (s s' : S) : Prop := s' = s ∨
  weakT s.ts s'.ts ∧ weakH s.hp s'.hp ∧ s'.marks = s.marks ∧ Nat.ble N s'.hp.length = true ∧
    (Nat.ble s.hp.length s'.hp.length || (inNT s'.hp.length s'.ts && inNH s'.hp.length s'.hp && inNM s'.hp.length s'.marks)) = true

mutual

/-- blocks of other numbers: the number k stands for the block σ k -/
def renV (σ : List Nat) : V → V
  | .ptr k o => .ptr (σ.getD k 0) o
  | .slc k o n c => .slc (σ.getD k 0) o n c
  | .yld k => .yld (σ.getD k 0)
  | .row k z n c => .row (σ.getD k 0) z n c
  | .rs k z o n c => .rs (σ.getD k 0) z o n c
  | .rp k z i f => .rp (σ.getD k 0) z i f
  | .mp k => .mp (σ.getD k 0)
  | .fn f a b => .fn f (renVs σ a) (renVs σ b)
  | .agg cs => .agg (renVs σ cs)
  | .tup cs => .tup (renVs σ cs)
  | v => v

def renVs (σ : List Nat) : List V → List V
  | [] => []
  | v :: vs => renV σ v :: renVs σ vs
end

def renT (σ : List Nat) : List (Nat × V) → List (Nat × V)
  | [] => []
  | (n, v) :: l => (n, renV σ v) :: renT σ l

def renB (σ : List Nat) : Blk → Blk
  | .cells vs => .cells (renVs σ vs)
  | .loop st pend r => .loop st pend ⟨r.f, r.ps, r.assign, r.body, renT σ r.ts, σ.getD r.d 0⟩
  | .map kd es => .map kd (es.map fun e => (e.1, renV σ e.2))
  | b => b

def isDead : Blk → Bool
  | .dead => true
  | _ => false

/-- one of the blocks that are not dead has the number k -/
def anyA (k : Nat) : List Nat → List Blk → Bool
  | j :: l, b :: hp => (!(isDead b) && Nat.beq k j) || anyA k l hp
  | _, _ => false

def nodupA : List Nat → List Blk → Bool
  | k :: l, b :: hp => (isDead b || !(anyA k l hp)) && nodupA l hp
  | _, _ => true

def blkEq (σ : List Nat) (hp : List Blk) : List Nat → List Blk → Prop
  | k :: l, b :: bs => (b = .dead ∨ hp[k]? = some (renB σ b)) ∧ blkEq σ hp l bs
  | _, _ => True

def renEq (σ : List Nat) (ts : List (Nat × V)) : List (Nat × V) → Prop
  | [] => True
  | (n, v) :: l => find n ts = renV σ v ∧ renEq σ ts l

def reno (N : Nat) (s s1 : S) : Prop := s1 = s ∨ ∃ σ : List Nat, σ.length = s1.hp.length ∧ Nat.ble N σ.length = true ∧ σ.take N = List.range N ∧ (σ.all fun k => Nat.blt k s.hp.length) = true ∧ nodupA σ s1.hp = true ∧
  renEq σ s.ts s1.ts ∧ blkEq σ s.hp σ s1.hp ∧ s.marks = s1.marks.map (σ.getD · 0) ∧
  (inNT s1.hp.length s1.ts && inNH s1.hp.length s1.hp && inNM s1.hp.length s1.marks) = true

/-- lists of what is deferred that stay empty need no number -/
def isDfr : Option Blk → Bool
  | some .dfr => true
  | _ => false

def forgot : List Nat → S → S
  | [], s => s
  | k :: ks, s => forgot ks ⟨s.ts, s.hp.set k .dead, s.marks.filter fun m => !Nat.beq m k⟩

def forgetOk : List Nat → List Blk → Bool
  | [], _ => true
  | k :: ks, hp => isDfr hp[k]? && forgetOk ks (hp.set k .dead)

/-- what a state comes to at a round's beginning -/
def wk (N : Nat) (s s' : S) : Prop := ∃ s0 s1, (∃ ks, forgetOk ks s.hp = true ∧ s0 = forgot ks s) ∧ reno N s0 s1 ∧ weak N s1 s'

/-- k rounds at most -/
def iterK (K : Ret → S → Prop) (next : S → Prop) : Ret → S → Prop
  | .normal, s => next s
  | .ret, s => K .ret s
  | .exit i, s => K (.exit i) s

def iter (N : Nat) (a : (Ret → S → Prop) → S → Prop) (K : Ret → S → Prop) : Nat → S → Prop
  | 0, _ => False
  | k + 1, s => ∃ s', wk N s s' ∧ a (iterK K fun s => iter N a K k s) s'

/-- rounds, each from the very state that the last one has left -/
def iter0 (a : (Ret → S → Prop) → S → Prop) (K : Ret → S → Prop) : Nat → S → Prop
  | 0, _ => False
  | k + 1, s => a (iterK K fun s => iter0 a K k s) s

/-- how a loop is taken: by rounds that are shown; round by round; by what is owed of it -/
inductive Lp where
  | ex | unroll (k : Nat) | auto (round : Option Nat) (a : Code) (g : S → (Ret → S → Prop) → Prop)

def firstOf : Code → Nat
  | .region id _ _ => id
  | .seq a _ => firstOf a
  | .block _ a => firstOf a
  | .cond _ a _ => firstOf a
  | .loop a => firstOf a
  | .scope a => firstOf a
  | _ => 0

def dOf (round : Option Nat) (hp : List Blk) : Option Nat := match round with
  | none => none
  | some k => match hp[k]? with | some (.loop _ _ r) => some r.d | _ => none

def seqK (K : Ret → S → Prop) (next : S → Prop) : Ret → S → Prop
  | .normal, s => next s
  | .ret, s => K .ret s
  | .exit i, s => K (.exit i) s

def blkK (K : Ret → S → Prop) (id : Nat) : Ret → S → Prop
  | .normal, s => K .normal s
  | .ret, s => K .ret s
  | .exit i, s => match Nat.beq i id with | true => K .normal s | false => K (.exit i) s

def pendK (K : Ret → S → Prop) (s : S) : Option Code → Prop
  | none => K .normal s
  | some (.ret) => K .ret s
  | some (.exit i) => K (.exit i) s
  | _ => False

def doneK (K : Ret → S → Prop) (s : S) (pend : Option Code) : LoopState → Prop
  | .busy => False
  | _ => pendK K s pend

def afterK (K : Ret → S → Prop) (ts : List (Nat × V)) (ms : List Nat) (k : Nat) (hp : List Blk) : Prop :=
  match hp[k]? with
  | some (.loop st pend _) => doneK K ⟨ts, hp.set k .dead, ms⟩ pend st
  | _ => False

def acode (fid : FuncId) (cv : CV) (ok : Nat → Nat → Bool) (lp : Nat → Nat → Lp) (round : Option Nat) : Code → (Ret → S → Prop) → S → Prop
  | .skip, K, s => K .normal s
  | .label _, K, s => K .normal s
  | .ret, K, s => K .ret s
  | .exit id, K, s => K (.exit id) s
  | .region rid ops draw, K, s => match draw with
    | false => aops c cv ops (fun s => forceS (keep (ok rid) s) (K .normal)) ops.toList s
    | true => match round with
      | none => match drawB c ops with
        | true => adraw c cv ops (fun s => forceS (keep (ok rid) s) (K .normal)) s
        | false => aany2 c cv ops (fun s => forceS (keep (ok rid) s) (K .normal)) ops.size (Array.replicate ops.size false) s
      | some _ => aany c cv ops (fun s => forceS (keep (ok rid) s) (K .normal)) false ops.size (Array.replicate ops.size false) s
  | .seq a b, K, s => acode fid cv ok lp round a (seqK K fun s => acode fid cv ok lp round b K s) s
  | .cond x a b, K, s => match s.get x with
    | .bool t => br t (acode fid cv ok lp round a K s) (acode fid cv ok lp round b K s)
    | _ => False
  | .block id a, K, s => acode fid cv ok lp round a (blkK K id) s
  | .scope a, K, s => acode fid cv ok lp round a K s
  | .loop a, K, s => match lp (firstOf a) s.hp.length with
    | .ex => ∃ k, iter s.hp.length (acode fid cv ok lp round a) K k s
    | .unroll n => iter0 (acode fid cv ok lp round a) K n s
    | .auto rd a' g => rd = round ∧ a' = a ∧ g s K
  | .rangeFunc f ps assign body, K, s => match isFn (s.get f) with
    | true => match round with
      | none => cv (s.get f) [.yld (s.hp.length + 1)] (s.hp ++ [Blk.dfr, Blk.loop .ready none ⟨fid, ps.toList, assign, body, s.ts, s.hp.length⟩]) fun _ hp =>
          afterK K s.ts (s.hp.length :: s.marks) (s.hp.length + 1) hp
      | some k₀ => match s.hp[k₀]? with
        | some (.loop _ _ r₀) => cv (s.get f) [.yld s.hp.length] (s.hp ++ [Blk.loop .ready none ⟨fid, ps.toList, assign, body, s.ts, r₀.d⟩]) fun _ hp =>
            afterK K s.ts s.marks s.hp.length hp
        | _ => False
    | false => False
  | _, _, _ => False

def result (s : S) (r : ResultVar) (K : V → Prop) : Prop := match r with
  | .tmp t => K (find t s.ts)
  | .cell a t => tyOf c t fun e => match find a s.ts with
    | .ptr k o => match cellsAt s.hp k with
      | some vs => match part e vs o with | some v => K v | none => False
      | none => False
    | _ => False

def resultsOf (s : S) : List ResultVar → (List V → Prop) → Prop
  | [], K => K []
  | r :: l, K => result c s r fun v => resultsOf s l (fun vs => K (v :: vs))

def number : Nat → List V → List (Nat × V)
  | _, [] => []
  | n, v :: l => (n, v) :: number (n + 1) l

/-- what a callee has made, and nobody sees, is forgotten -/
def leave (n : Nat) (hp : List Blk) (v : V) (K : V → List Blk → Prop) : Prop :=
  match Nat.ble hp.length n with
  | true => K v hp
  | false => match inN n v && inNH n (hp.take n) with
    | true => K v (hp.take n)
    | false => K v hp

def zipPut : List Tmp → List V → List (Nat × V) → List (Nat × V)
  | p :: ps, v :: vs, ts => zipPut ps vs (ins p v ts)
  | _, _, ts => ts

/-- the block for the calls that rounds defer is still empty -/
def shutOk : List Blk → List Nat → Prop
  | _, [] => True
  | hp, k :: l => (match hp[k]? with | some .dfr => True | _ => False) ∧ shutOk (hp.set k .dead) l

def shutK (X : Prop) : List Blk → List Nat → Prop
  | _, [] => X
  | hp, k :: l => match hp[k]? with | some .dfr => shutK X (hp.set k .dead) l | _ => False

def deadAll : List Nat → List Blk → List Blk
  | [], hp => hp
  | k :: l, hp => deadAll l (hp.set k .dead)

def tupOf : List V → V
  | [v] => v
  | vs => .tup vs

/-- temporaries that are read elsewhere than where they are set: all -/
def kept : Nat → Bool := fun _ => true

def retK (n : Nat) (fn : Func) (K : V → List Blk → Prop) : Ret → S → Prop
  | .exit _, _ => False
  | _, s => shutK (resultsOf c ⟨s.ts, deadAll s.marks s.hp, []⟩ fn.results.toList fun vs => leave n (deadAll s.marks s.hp) (tupOf vs) K) s.hp s.marks

def busyK (n k : Nat) (K : V → List Blk → Prop) (q : Ret) (s : S) : Prop := match s.hp[k]? with
  | some (.loop .busy none r) => match q with
    | .normal => leave n (s.hp.set k (.loop .ready none r)) (.bool true) K
    | .ret => leave n (s.hp.set k (.loop .done (some .ret) r)) (.bool false) K
    | .exit i => leave n (s.hp.set k (.loop .done (some (.exit i)) r)) (.bool false) K
  | _ => False

def beginK (k : Nat) (next : S → Prop) : Ret → S → Prop
  | .normal, s => match s.hp[k]? with
    | some (.loop .ready none r) => next ⟨s.ts, s.hp.set k (.loop .busy none r), s.marks⟩
    | _ => False
  | _, _ => False

def acall (ok : FuncId → Nat → Nat → Bool) (lp : Nat → FuncId → Nat → Nat → Lp) : Nat → CV
  | 0, _, _, _, _ => False
  | n + 1, v, args, hp, K => match v with
    | .fn f a b => match assoc f c.fns with
      | some (.fx A B R) => match B.flat with
        | true => match A.ext hp (a ++ args ++ b) with
          | some (x, [], d) => reqc c.m d (∃ y, R x y ∧ inst (single (B.shape y)) hp K)
          | _ => False
        | false => match ices hp (a ++ args ++ b) with
          | some (vs, hp, d') => match A.ext [] vs with
            | some (x, [], d) => reqc c.m (d' && d) (∃ y, R x y ∧ inst (single (B.shape y)) hp K)
            | _ => False
          | none => False
      | some (.fn A B g pre) => match B.flat with
        | true => match A.ext hp (a ++ args ++ b) with
          | some (x, [], d) => reqc c.m (d && pre x) (inst (single (B.shape (g x))) hp K)
          | _ => False
        | false => match ices hp (a ++ args ++ b) with
          | some (vs, hp, d') => match A.ext [] vs with
            | some (x, [], d) => reqc c.m (d' && d && pre x) (inst (single (B.shape (g x))) hp K)
            | _ => False
          | none => False
      | some (.full g) => g (a ++ args ++ b) hp K
      | some (.body fn) => match fn.body with
        | some code => acode c f (acall ok lp n) (ok f) (lp n f) none code (retK c hp.length fn K) ⟨number 0 (a ++ args ++ b), hp, []⟩
        | none => False
      | none => False
    | .yld k => match hp[k]? with
      | some (.loop .ready none r) => reqc c.m (Nat.beq r.ps.length args.length) (acode c r.f (acall ok lp n) (ok r.f) (lp n r.f) (some k) r.assign
          (beginK k fun s => acode c r.f (acall ok lp n) (ok r.f) (lp n r.f) (some k) r.body (busyK hp.length k K) s) ⟨zipPut r.ps args r.ts, hp, []⟩)
      | _ => False
    | _ => False
end Go.B
