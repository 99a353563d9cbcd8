/- An evaluator of the model's code over plain data: types of plain data, stores, operations. -/
import Derived.Calls
import Derived.Tactics
set_option linter.unusedVariables false
namespace Go.Ev

/-! ### Plain data -/
/-- The types of plain data: a struct is a row of pairs, its last field the last part. -/
inductive Ty
  | int (k : IntKind) | bool | f64 | str | unit | one (a : Ty) | pair (a b : Ty) | sl (e : Ty)
  deriving DecidableEq, Inhabited

@[reducible] def Ty.den : Ty → Type
  | .int _ => Int
  | .bool => Bool
  | .f64 => Nat
  | .str => ByteArray
  | .unit => Unit
  | .one a => a.den
  | .pair a b => a.den × b.den
  | .sl e => List e.den

/-- How many cells. -/
def Ty.size : Ty → Nat
  | .unit => 0
  | .one a => a.size
  | .pair a b => a.size + b.size
  | _ => 1

def Ty.isAgg : Ty → Bool
  | .unit | .one _ | .pair _ _ => true
  | _ => false

noncomputable def Ty.dflt : (t : Ty) → t.den
  | .int _ => (0 : Int)
  | .bool => false
  | .f64 => (0 : Nat)
  | .str => ⟨#[]⟩
  | .unit => ()
  | .one a => a.dflt
  | .pair a b => (a.dflt, b.dflt)
  | .sl e => ([] : List e.den)

def Ty.hasSl : Ty → Bool
  | .sl _ => true
  | .one a => a.hasSl
  | .pair a b => a.hasSl || b.hasSl
  | _ => false

def castTy {t t' : Ty} (h : t = t') (x : t.den) : t'.den := h ▸ x

/-! ### What a slot holds -/
inductive AV
  | pure (t : Ty) (x : t.den)
  /-- The nil slice. -/
  | nil
  /-- A whole row of one's own. -/
  | own (o : Nat)
  /-- A part of a row of one's own. -/
  | view (o sz lo n : Nat)
  /-- An address in an object of one's own: element i of so many cells, and a cell of it. -/
  | ref (o i sz off : Nat)
  /-- An address in memory that nobody writes. -/
  | cptr (t : Ty) (x : t.den) (off : Nat)
  | fn (f : FuncId) (caps : List Nat)
  | nilp
  | dead

inductive Slot
  | one (a : AV)
  | agg (cs : List AV)
  | tup (l : List AV)

/-- An object: the cells of a variable; a row that may grow; a row that nobody writes any more. -/
inductive Ob
  | cells (cs : List AV)
  | row (t : Ty) (xs : List t.den)
  | frow (t : Ty) (xs : List t.den)
  /-- No memory: slots that are to be kept in mind. -/
  | ghost (sl : List Slot)
  /-- A map: its entries, each with the number of its birth; the next number. -/
  | map (k v : Ty) (l : List (Nat × (Ty.pair k v).den)) (c : Nat)

abbrev Store := List (Nat × Ob)

structure St where
  tmps : List Slot
  st : Store
  next : Nat

noncomputable def Store.get (st : Store) (k : Nat) : Option Ob :=
  match st with
  | [] => none
  | (j, o) :: r => if j = k then some o else Store.get r k
noncomputable def Store.erase (st : Store) (k : Nat) : Store :=
  match st with
  | [] => []
  | (j, o) :: r => if j = k then Store.erase r k else (j, o) :: Store.erase r k
noncomputable def Store.put (st : Store) (k : Nat) (o : Ob) : Store :=
  match st with
  | [] => [(k, o)]
  | (j, o') :: r => if j = k then (j, o) :: r else (j, o') :: Store.put r k o

/-- A row's type and content. -/
noncomputable def Store.row (st : Store) (k : Nat) (e : Ty) : Option (List e.den) :=
  match st.get k with
  | some (.row e' xs) => if h : Ty.sl e' = .sl e then some (castTy h xs : (Ty.sl e).den) else none
  | some (.frow e' xs) => if h : Ty.sl e' = .sl e then some (castTy h xs : (Ty.sl e).den) else none
  | _ => none
/-- The same of one that may be written. -/
noncomputable def Store.wrow (st : Store) (k : Nat) (e : Ty) : Option (List e.den) :=
  match st.get k with
  | some (.row e' xs) => if h : Ty.sl e' = .sl e then some (castTy h xs : (Ty.sl e).den) else none
  | _ => none
/-- Its length. -/
noncomputable def Store.len (st : Store) (k : Nat) : Option Nat :=
  match st.get k with
  | some (.row _ xs) => some xs.length
  | some (.frow _ xs) => some xs.length
  | _ => none
noncomputable def Store.esize (st : Store) (k : Nat) : Option Nat :=
  match st.get k with
  | some (.row e _) => some e.size
  | some (.frow e _) => some e.size
  | _ => none

def castMap {a b : Ty} (h : a = b) (l : List (Nat × a.den)) : List (Nat × b.den) := h ▸ l
/-- A map's entries. -/
noncomputable def Store.map (st : Store) (o : Nat) (k v : Ty) : Option (List (Nat × (Ty.pair k v).den) × Nat) :=
  match st.get o with
  | some (.map k' v' l c) => if h : Ty.pair k' v' = Ty.pair k v then some (castMap h l, c) else none
  | _ => none

/-- As plain data of a type. -/
noncomputable def AV.as (st : Store) (t : Ty) : AV → Option t.den
  | .pure t' x => if h : t' = t then some (castTy h x) else none
  | .nil => match t with
    | .sl e => some ([] : List e.den)
    | _ => none
  | .own o => match t with
    | .sl e => (st.row o e : Option (List e.den))
    | _ => none
  | .view o sz lo n => match t with
    | .sl e => if sz = e.size then (match st.row o e with
      | some xs => some ((xs.drop lo).take n : List e.den)
      | none => none) else none
    | _ => none
  | _ => none

noncomputable def leafOf (st : Store) (t : Ty) : List AV → Option (t.den × List AV)
  | c :: r => (c.as st t).map (·, r)
  | [] => none
/-- Cells as plain data of a type, and the cells behind. -/
noncomputable def gather (st : Store) : (t : Ty) → List AV → Option (t.den × List AV)
  | .unit, cs => some ((), cs)
  | .one a, cs => gather st a cs
  | .pair a b, cs => match gather st a cs with
    | some (x, r) => match gather st b r with
      | some (y, r') => some ((x, y), r')
      | none => none
    | none => none
  | .int k, cs => leafOf st (.int k) cs
  | .bool, cs => leafOf st .bool cs
  | .f64, cs => leafOf st .f64 cs
  | .str, cs => leafOf st .str cs
  | .sl e, cs => leafOf st (.sl e) cs

noncomputable def scatter : (t : Ty) → t.den → List AV
  | .unit, _ => []
  | .one a, x => scatter a x
  | .pair a b, x => scatter a x.1 ++ scatter b x.2
  | .int k, x => [.pure (.int k) x]
  | .bool, x => [.pure .bool x]
  | .f64, x => [.pure .f64 x]
  | .str, x => [.pure .str x]
  | .sl e, x => [.pure (.sl e) x]

noncomputable def Slot.as (st : Store) (t : Ty) : Slot → Option t.den
  | .one a => a.as st t
  | .agg cs => if t.isAgg then (match gather st t cs with
    | some (x, []) => some x
    | _ => none) else none
  | .tup _ => none

/-- The part of a type at a cell. -/
noncomputable def proj : (t : Ty) → t.den → (off : Nat) → (u : Ty) → Option u.den
  | t, x, 0, u => if h : t = u then some (castTy h x) else match t, x with
    | .one a, x => proj a x 0 u
    | .pair a _, x => proj a x.1 0 u
    | _, _ => none
  | t, x, off + 1, u => match t, x with
    | .one a, x => proj a x (off + 1) u
    | .pair a b, x => if off + 1 < a.size then proj a x.1 (off + 1) u else proj b x.2 (off + 1 - a.size) u
    | _, _ => none

/-- The same data with that part another. -/
noncomputable def upd : (t : Ty) → t.den → (off : Nat) → (u : Ty) → u.den → Option t.den
  | t, x, 0, u, y => if h : u = t then some (castTy h y) else match t, x with
    | .one a, x => upd a x 0 u y
    | .pair a _, x => (upd a x.1 0 u y).map (·, x.2)
    | _, _ => none
  | t, x, off + 1, u, y => match t, x with
    | .one a, x => upd a x (off + 1) u y
    | .pair a b, x => if off + 1 < a.size then (upd a x.1 (off + 1) u y).map (·, x.2) else (upd b x.2 (off + 1 - a.size) u y).map (x.1, ·)
    | _, _ => none

/-! ### Contracts of callees -/
inductive OT
  | pure (t : Ty)
  /-- A slice in new memory. -/
  | fresh (t : Ty)

@[reducible] def OT.den : OT → Type
  | .pure t => t.den
  | .fresh t => List t.den

@[reducible] def Tup : List Ty → Type
  | [] => Unit
  | t :: ts => t.den × Tup ts
@[reducible] def OTup : List OT → Type
  | [] => Unit
  | t :: ts => t.den × OTup ts

structure Spec where
  ins : List Ty
  outs : List OT
  F : Tup ins → Option (OTup outs)

/-- What a call of a function with a contract of its own comes to, at slots of a shape: data that may be there, and what they leave. -/
structure ExtR where
  D : Type
  val : Option D
  out : D → Slot × Store

/-- What the evaluation knows of the program. -/
structure Env where
  ty : TypeId → Option Ty
  /-- A struct's field: its first cell, how many. -/
  fld : TypeId → Nat → Option (Nat × Nat)
  /-- A type that need not be plain: how many cells, whether a struct. -/
  shape : TypeId → Option (Nat × Bool)
  /-- Structs that literals make. -/
  strct : TypeId → Bool
  /-- The cells of a variable at its zero. -/
  zero : TypeId → Option (List AV)
  /-- A slice type: the bytes of an element. -/
  bytes : TypeId → Option Nat
  /-- Structs that '==' compares. -/
  eqt : TypeId → Option Ty
  /-- Map types: keys' and values' plain data. -/
  mapT : TypeId → Option (Ty × Ty)
  call : FuncId → Option Spec
  /-- Contracts over slots: what is handed over by reference, and closures. -/
  ext : FuncId → Option (Nat → List Slot → Store → Option ExtR)
  /-- By a loop's (or a join's) first region: the slots that live on, a row of one's own of a type. -/
  hint : Nat → Option (List (Nat × Option Ty))

noncomputable def argsAs (st : Store) : (ts : List Ty) → List Slot → Option (Tup ts)
  | [], [] => some ()
  | t :: ts, a :: as => match a.as st t with
    | some x => match argsAs st ts as with
      | some r => some (x, r)
      | none => none
    | none => none
  | _, _ => none

noncomputable def outsHold : List OT → Bool
  | [] => false
  | .pure t :: r => t.hasSl || outsHold r
  | .fresh t :: r => t.hasSl || outsHold r

/-- Rows of one's own that a value shows. -/
noncomputable def AV.rows : AV → List Nat
  | .own o => [o]
  | .view o _ _ _ => [o]
  | _ => []
noncomputable def Slot.rows : Slot → List Nat
  | .one a => a.rows
  | .agg cs => cs.flatMap AV.rows
  | .tup l => l.flatMap AV.rows

/-- A row of one's own that nobody writes from here on. -/
noncomputable def Store.freeze (st : Store) (k : Nat) : Store :=
  match st.get k with
  | some (.row e xs) => st.put k (.frow e xs)
  | _ => st
noncomputable def Store.freezes (st : Store) : List Nat → Store
  | [] => st
  | k :: r => (st.freeze k).freezes r

/-- How many results are slices in new memory. -/
noncomputable def freshes : List OT → Nat
  | [] => 0
  | .pure _ :: r => freshes r
  | .fresh _ :: r => freshes r + 1
noncomputable def resAVs : (outs : List OT) → OTup outs → (key : Nat) → List AV
  | [], _, _ => []
  | .pure t :: r, x, key => .pure t x.1 :: resAVs r x.2 key
  | .fresh t :: r, x, key => .own key :: resAVs r x.2 (key + 1)
noncomputable def resStore : (outs : List OT) → OTup outs → (key : Nat) → Store → Store
  | [], _, _, st => st
  | .pure t :: r, x, key, st => resStore r x.2 key st
  | .fresh t :: r, x, key, st => resStore r x.2 (key + 1) (st.put key (.row t x.1))
noncomputable def slotOf : List AV → Slot
  | [a] => .one a
  | l => .tup l

/-! ### Operations -/
noncomputable def constAV : Value → Option AV
  | .int k n => some (.pure (.int k) n)
  | .bool b => some (.pure .bool b)
  | .float .f64 b => some (.pure .f64 b)
  | .string s => some (.pure .str s)
  | .slice none 0 0 => some .nil
  | .pointer none => some .nilp
  | .nilFunc => some .nilp
  | _ => none
noncomputable def constAVs : List Value → Option (List AV)
  | [] => some []
  | v :: r => match constAV v with
    | some a => match constAVs r with
      | some l => some (a :: l)
      | none => none
    | none => none
noncomputable def constSlot : Value → Option Slot
  | .agg cs => (constAVs cs.toList).map .agg
  | v => (constAV v).map .one

noncomputable def St.ev (s : St) : Operand → Option Slot
  | .tmp t => s.tmps[t]?
  | .const v => constSlot v
  | .func f => some (.one (.fn f []))
  | .global _ => none
noncomputable def St.evs (s : St) : List Operand → Option (List Slot)
  | [] => some []
  | x :: r => match s.ev x with
    | some a => match s.evs r with
      | some l => some (a :: l)
      | none => none
    | none => none
noncomputable def St.one (s : St) (x : Operand) : Option AV :=
  match s.ev x with
  | some (.one a) => some a
  | _ => none
noncomputable def St.int (s : St) (x : Operand) : Option (IntKind × Int) :=
  match s.ev x with
  | some (.one (.pure (.int k) n)) => some (k, n)
  | _ => none
noncomputable def St.bool (s : St) (x : Operand) : Option Bool :=
  match s.ev x with
  | some (.one (.pure .bool b)) => some b
  | _ => none

noncomputable def intBin (op : BinOp) (k : IntKind) (x y : Int) : Option (Bool × AV) :=
  match op with
  | .add => some (true, .pure (.int k) (k.wrap (x + y)))
  | .sub => some (true, .pure (.int k) (k.wrap (x - y)))
  | .mul => some (true, .pure (.int k) (k.wrap (x * y)))
  | .quo => some (!decide (y = 0), .pure (.int k) (k.wrap (x.tdiv y)))
  | .rem => some (!decide (y = 0), .pure (.int k) (x.tmod y))
  | .and => some (true, .pure (.int k) (k.wrap (BitVec.ofInt k.bits x &&& BitVec.ofInt k.bits y).toNat))
  | .or => some (true, .pure (.int k) (k.wrap (BitVec.ofInt k.bits x ||| BitVec.ofInt k.bits y).toNat))
  | .xor => some (true, .pure (.int k) (k.wrap (BitVec.ofInt k.bits x ^^^ BitVec.ofInt k.bits y).toNat))
  | .andNot => some (true, .pure (.int k) (k.wrap (BitVec.ofInt k.bits x &&& ~~~ BitVec.ofInt k.bits y).toNat))
  | .eql => some (true, .pure .bool (x == y))
  | .neq => some (true, .pure .bool (x != y))
  | .lss => some (true, .pure .bool (decide (x < y)))
  | .leq => some (true, .pure .bool (decide (x ≤ y)))
  | .gtr => some (true, .pure .bool (decide (x > y)))
  | .geq => some (true, .pure .bool (decide (x ≥ y)))
  | _ => none
noncomputable def shiftBin (op : BinOp) (k : IntKind) (x y : Int) : Option (Bool × AV) :=
  match op with
  | .shl => some (decide (0 ≤ y), .pure (.int k) (k.wrap (x * 2 ^ (min y.toNat k.bits))))
  | .shr => some (decide (0 ≤ y), .pure (.int k) (x.fdiv (2 ^ (min y.toNat k.bits))))
  | _ => none
noncomputable def floatBin (op : BinOp) (x y : Nat) : Option (Bool × AV) :=
  match op with
  | .add => some ((FloatKind.f64.format.add x y).isSome, .pure .f64 ((FloatKind.f64.format.add x y).getD 0))
  | .sub => some ((FloatKind.f64.format.sub x y).isSome, .pure .f64 ((FloatKind.f64.format.sub x y).getD 0))
  | .mul => some ((FloatKind.f64.format.mul x y).isSome, .pure .f64 ((FloatKind.f64.format.mul x y).getD 0))
  | .quo => some ((FloatKind.f64.format.div x y).isSome, .pure .f64 ((FloatKind.f64.format.div x y).getD 0))
  | .eql => some (true, .pure .bool (FloatKind.f64.format.order x y == some .eq))
  | .neq => some (true, .pure .bool (FloatKind.f64.format.order x y != some .eq))
  | .lss => some (true, .pure .bool (FloatKind.f64.format.order x y == some .lt))
  | .leq => some (true, .pure .bool (FloatKind.f64.format.order x y == some .lt || FloatKind.f64.format.order x y == some .eq))
  | .gtr => some (true, .pure .bool (FloatKind.f64.format.order x y == some .gt))
  | .geq => some (true, .pure .bool (FloatKind.f64.format.order x y == some .gt || FloatKind.f64.format.order x y == some .eq))
  | _ => none
/-- '==' of plain data without floats and slices. -/
noncomputable def eqDen : (t : Ty) → t.den → t.den → Option Bool
  | .int _, x, y => some ((show Int from x) == (show Int from y))
  | .bool, x, y => some ((show Bool from x) == (show Bool from y))
  | .str, x, y => some ((show ByteArray from x) == (show ByteArray from y))
  | .unit, _, _ => some true
  | .one a, x, y => eqDen a x y
  | .pair a b, x, y => match eqDen a x.1 y.1 with
    | some p => match eqDen b x.2 y.2 with
      | some q => some (p && q)
      | none => none
    | none => none
  | .f64, _, _ => none
  | .sl _, _, _ => none
/-- Are keys the same? -/
noncomputable def keyEq (t : Ty) (x y : t.den) : Bool := (eqDen t x y).getD false
/-- Types whose data may be keys. -/
def Ty.keyed : Ty → Bool
  | .int _ => true
  | .bool => true
  | .str => true
  | .unit => true
  | .one a => a.keyed
  | .pair a b => a.keyed && b.keyed
  | .f64 => false
  | .sl _ => false

/-! ### Maps -/
/-- A key's value. -/
def mapGet {K V : Type} (eq : K → K → Bool) (k : K) : List (Nat × (K × V)) → Option V
  | [] => none
  | e :: r => bif eq k e.2.1 then some e.2.2 else mapGet eq k r
/-- The entry of a key has another value (and that key); false: there is none. -/
def mapSet {K V : Type} (eq : K → K → Bool) (k : K) (v : V) : List (Nat × (K × V)) → List (Nat × (K × V))
  | [] => []
  | e :: r => bif eq k e.2.1 then (e.1, (k, v)) :: r else e :: mapSet eq k v r
def mapPut {K V : Type} (eq : K → K → Bool) (k : K) (v : V) (l : List (Nat × (K × V))) (c : Nat) : List (Nat × (K × V)) :=
  bif (mapGet eq k l).isSome then mapSet eq k v l else l ++ [(c, (k, v))]
def mapNext {K V : Type} (eq : K → K → Bool) (k : K) (l : List (Nat × (K × V))) (c : Nat) : Nat :=
  bif (mapGet eq k l).isSome then c else c + 1
def mapDel {K V : Type} (eq : K → K → Bool) (k : K) : List (Nat × (K × V)) → List (Nat × (K × V))
  | [] => []
  | e :: r => bif eq k e.2.1 then r else e :: mapDel eq k r

noncomputable def eqE (E : Env) (t : TypeId) (x y : Slot) (st : Store) : Option Bool :=
  match E.eqt t with
  | some u => match x.as st u with
    | some a => match y.as st u with
      | some b => eqDen u a b
      | none => none
    | none => none
  | none => none
noncomputable def binQ (op : BinOp) (x y : Slot) (q : Option Bool) : Option (Bool × AV) :=
  match x, y with
  | .one (.pure (.int k) a), .one (.pure (.int k') b) =>
    match op with
    | .shl => shiftBin .shl k a b
    | .shr => shiftBin .shr k a b
    | op => if k = k' then intBin op k a b else none
  | .one (.pure .f64 a), .one (.pure .f64 b) => floatBin op a b
  | _, _ => match op with
    | .eql => q.map fun c => (true, .pure .bool c)
    | .neq => q.map fun c => (true, .pure .bool (!c))
    | _ => none
noncomputable def binE (E : Env) (op : BinOp) (t : TypeId) (x y : Slot) (st : Store) : Option (Bool × AV) := binQ op x y (eqE E t x y st)

/-- A value's cells. -/
noncomputable def Slot.cells : Slot → Option (List AV)
  | .one (.pure t x) => some (scatter t x)
  | .one .dead => none
  | .one a => some [a]
  | .agg cs => some cs
  | .tup _ => none

noncomputable def putCells (cs : List AV) (off : Nat) (l : List AV) : List AV := cs.take off ++ l ++ cs.drop (off + l.length)

noncomputable def buildParts (E : Env) (t : TypeId) (s : St) : List (Nat × Operand) → List AV → Option (List AV)
  | [], cs => some cs
  | (i, x) :: r, cs => match E.fld t i with
    | some (off, n) => match s.ev x with
      | some sl => match sl.cells with
        | some l => if l.length = n ∧ off + n ≤ cs.length then buildParts E t s r (putCells cs off l) else none
        | none => none
      | none => none
    | none => none

/-- The parts of a literal's row, in order. -/
noncomputable def partsAs (s : St) (e : Ty) : Nat → List (Nat × Operand) → Option (List e.den)
  | _, [] => some []
  | n, (i, x) :: r => if i = n then (match s.ev x with
      | some sl => match sl.as s.st e with
        | some y => match partsAs s e (n + 1) r with
          | some l => some (y :: l)
          | none => none
        | none => none
      | none => none) else none
noncomputable def partsRows (s : St) : List (Nat × Operand) → List Nat
  | [] => []
  | (_, x) :: r => (match s.ev x with | some sl => sl.rows | none => []) ++ partsRows s r

/-- No row takes more bytes. -/
def maxBytes : Nat := 140737488355328

noncomputable def lenOfAV (st : Store) : AV → Option Nat
  | .pure (.sl e) xs => some (show List e.den from xs).length
  | .nil => some 0
  | .own o => st.len o
  | .view _ _ _ n => some n
  | _ => none

/-- What an operation gives, if so. -/
inductive Eff
  | val (c : Bool) (v : Slot) (st : Store)

noncomputable def appendE (st : Store) (key : Nat) (e : Ty) (by_ : Nat) (a b : AV) : Option Eff :=
  match b.as st (.sl e) with
  | none => none
  | some ys =>
    match a with
    | .nil => some (.val (decide ((ys : List e.den).length * by_ ≤ maxBytes)) (.one (.own key)) (st.put key (.row e ys)))
    | .own o => if b.rows.contains o then none else match st.wrow o e with
      | some xs => some (.val (decide ((xs.length + (ys : List e.den).length) * by_ ≤ maxBytes)) (.one (.own key))
          ((st.erase o).put key (.row e (xs ++ ys))))
      | none => none
    | .view o sz lo n => if b.rows.contains o then none else if sz = e.size then match st.wrow o e with
      | some xs => some (.val (decide ((n + (ys : List e.den).length) * by_ ≤ maxBytes)) (.one (.own key))
          ((st.erase o).put key (.row e ((xs.drop lo).take n ++ ys))))
      | none => none else none
    | _ => none

noncomputable def bnd (s : St) (x : Option Operand) (d : Int) : Option Int :=
  match x with
  | none => some d
  | some x => match s.int x with
    | some (_, n) => some n
    | none => none

noncomputable def loadE (E : Env) (t : TypeId) (a : AV) (st : Store) : Option Slot :=
  match a with
  | .ref k i sz off => match st.get k with
    | some (.cells cs) => match E.shape t with
      | some (n, true) => if off + n ≤ cs.length then some (.agg ((cs.drop off).take n)) else none
      | some (_, false) => (cs[off]?).map .one
      | none => none
    | some (.row e xs) => match E.ty t with
      | some u => if sz = e.size then (proj e (xs.getD i e.dflt) off u).map fun y => .one (.pure u y) else none
      | none => none
    | some (.frow e xs) => match E.ty t with
      | some u => if sz = e.size then (proj e (xs.getD i e.dflt) off u).map fun y => .one (.pure u y) else none
      | none => none
    | _ => none
  | .cptr e x off => match E.ty t with
    | some u => (proj e x off u).map fun y => .one (.pure u y)
    | none => none
  | _ => none

noncomputable def storeE (E : Env) (t : TypeId) (a : AV) (v : Slot) (st : Store) : Option Store :=
  match a with
  | .ref k i sz off => match st.get k with
    | some (.cells cs) => match E.shape t with
      | some (n, _) => match v.cells with
        | some l => if l.length = n ∧ off + n ≤ cs.length then some (st.put k (.cells (putCells cs off l))) else none
        | none => none
      | none => none
    | some (.row e xs) => match E.ty t with
      | some u => match v.as st u with
        | some y => if sz = e.size ∧ !v.rows.contains k then (upd e (xs.getD i e.dflt) off u y).map fun z =>
            (if u.hasSl then st.freezes v.rows else st).put k (.row e (xs.set i z)) else none
        | none => none
      | none => none
    | _ => none
  | _ => none

noncomputable def sliceE (st : Store) (e : Ty) (a : AV) (len : Nat) (l h : Int) : Option Eff :=
  match a with
  | .pure (.sl e') xs => if e' = e then some (.val (decide (0 ≤ l) && decide (l ≤ h) && decide (h ≤ (len : Int))) (.one (.pure (.sl e') (((show List e'.den from xs).drop l.toNat).take (h.toNat - l.toNat)))) st) else none
  | .nil => some (.val (decide (0 ≤ l) && decide (l ≤ h) && decide (h ≤ (len : Int))) (.one .nil) st)
  | .own o => if st.esize o = some e.size then some (.val (decide (0 ≤ l) && decide (l ≤ h) && decide (h ≤ (len : Int))) (.one (.view o e.size l.toNat (h.toNat - l.toNat))) st) else none
  | .view o sz lo n => if sz = e.size then some (.val (decide (0 ≤ l) && decide (l ≤ h) && decide (h ≤ (len : Int))) (.one (.view o sz (lo + l.toNat) (h.toNat - l.toNat))) st) else none
  | _ => none

noncomputable def indexE (st : Store) (e : Ty) (a : AV) (i : Int) : Option Eff :=
  match a with
  | .own k => match st.len k with
    | some n => if st.esize k = some e.size then some (.val (decide (0 ≤ i) && decide (i < (n : Int))) (.one (.ref k i.toNat e.size 0)) st) else none
    | none => none
  | .view k sz lo n => if sz = e.size then some (.val (decide (0 ≤ i) && decide (i < (n : Int))) (.one (.ref k (lo + i.toNat) sz 0)) st) else none
  | .pure (.sl e') xs => if e' = e then some (.val (decide (0 ≤ i) && decide (i < ((show List e'.den from xs).length : Int))) (.one (.cptr e' ((show List e'.den from xs).getD i.toNat e'.dflt) 0)) st) else none
  | _ => none

noncomputable def convE (E : Env) (src dst : TypeId) (x : Slot) (st : Store) : Option Eff :=
  match E.ty src with
  | none => none
  | some _ => match E.ty dst with
    | some (.int k) => match x with
      | .one (.pure (.int _) n) => some (.val true (.one (.pure (.int k) (k.wrap n))) st)
      | .one (.pure .f64 b) => some (.val (match (FloatKind.f64.decode b).toInt .zero with | some n => decide (k.min ≤ n) && decide (n ≤ k.max) | none => false) (.one (.pure (.int k) (((FloatKind.f64.decode b).toInt .zero).getD 0))) st)
      | _ => none
    | some .f64 => match x with
      | .one (.pure (.int _) n) => some (.val true (.one (.pure .f64 (FloatKind.f64.nearest n))) st)
      | _ => none
    | _ => none

noncomputable def callE (E : Env) (key : Nat) (c : Call) (s : St) : Option Eff :=
  match c.callee with
  | .builtin .len => match c.args.toList with
    | [x] => match s.one x with
      | some a => match c.argTypes[0]? with
        | some t => match E.ty t with
          | some (.sl _) => (lenOfAV s.st a).map fun (n : Nat) => .val true (.one (.pure (.int .i64) (n : Int))) s.st
          | _ => match E.mapT t with
            | some (k, v) => match a with
              | .own o => match s.st.map o k v with
                | some (l, _) => some (.val true (.one (.pure (.int .i64) ((l.length : Nat) : Int))) s.st)
                | none => none
              | _ => none
            | none => none
        | none => none
      | none => none
    | _ => none
  | .builtin .append => match c.args.toList with
    | [x, y] => match s.one x with
      | some a => match s.one y with
        | some b => match c.argTypes.toList with
          | [t, t'] => match E.ty t with
            | some (.sl e) => match E.ty t' with
              | some (.sl _) => match E.bytes t with
                | some n => appendE s.st key e n a b
                | none => none
              | _ => none
            | _ => none
          | _ => none
        | none => none
      | none => none
    | _ => none
  | .builtin .min => match c.args.toList with
    | [x, y] => match s.int x with
      | some (k, a) => match s.int y with
        | some (_, b) => some (.val true (.one (.pure (.int k) (if b < a then b else a))) s.st)
        | none => none
      | none => none
    | _ => none
  | .builtin .max => match c.args.toList with
    | [x, y] => match s.int x with
      | some (k, a) => match s.int y with
        | some (_, b) => some (.val true (.one (.pure (.int k) (if b > a then b else a))) s.st)
        | none => none
      | none => none
    | _ => none
  | .builtin .delete => match c.args.toList with
    | [x, y] => match s.one x with
      | some (.own o) => match c.argTypes[0]? with
        | some t => match E.mapT t with
          | some (k, v) => match s.st.map o k v with
            | some (l, n) => match s.ev y with
              | some sl => match sl.as s.st k with
                | some kx => some (.val true (.tup []) (s.st.put o (.map k v (mapDel (keyEq k) kx l) n)))
                | none => none
              | none => none
            | none => none
          | none => none
        | none => none
      | _ => none
    | _ => none
  | _ => none

noncomputable def lookupE (E : Env) (t : TypeId) (a : AV) (ix : Slot) (ok : Bool) (st : Store) : Option Slot :=
  match a with
  | .own o => match E.mapT t with
    | some (k, v) => match st.map o k v with
      | some (l, _) => match ix.as st k with
        | some kx => bif ok then some (.tup [.pure v ((mapGet (keyEq k) kx l).getD v.dflt), .pure .bool (mapGet (keyEq k) kx l).isSome])
            else some (.one (.pure v ((mapGet (keyEq k) kx l).getD v.dflt)))
        | none => none
      | none => none
    | none => none
  | _ => none
noncomputable def mapUpdateE (E : Env) (t : TypeId) (a : AV) (ix y : Slot) (st : Store) : Option Store :=
  match a with
  | .own o => match E.mapT t with
    | some (k, v) => match st.map o k v with
      | some (l, c) => match ix.as st k with
        | some kx => match y.as st v with
          | some vy => some ((if v.hasSl then st.freezes y.rows else st).put o (.map k v (mapPut (keyEq k) kx vy l c) (mapNext (keyEq k) kx l c)))
          | none => none
        | none => none
      | none => none
    | none => none
  | _ => none

/-- The variables that a closure catches. -/
noncomputable def capKeys (s : St) : List Operand → Option (List Nat)
  | [] => some []
  | x :: r => match s.one x with
    | some (.ref k 0 0 0) => match s.st.get k with
      | some (.cells _) => match capKeys s r with
        | some l => some (k :: l)
        | none => none
      | _ => none
    | _ => none
noncomputable def evalOp (E : Env) (key : Nat) (o : Oper) (s : St) : Option Eff :=
  match o.op with
  | .move x => (s.ev x).map fun v => .val true v s.st
  | .assign x => (s.ev x).map fun v => .val true v s.st
  | .alloc t => (E.zero t).map fun cs => .val true (.one (.ref key 0 0 0)) (s.st.put key (.cells cs))
  | .box _ x => match s.ev x with
    | some sl => match sl.cells with
      | some cs => some (.val true (.one (.ref key 0 0 0)) (s.st.put key (.cells cs)))
      | none => none
    | none => none
  | .build t parts => match E.zero t with
    | some cs => if E.strct t then (buildParts E t s parts.toList cs).map fun l => .val true (.agg l) s.st else none
    | none => none
  | .buildSlice t len parts => match E.ty t with
    | some (.sl e) => match partsAs s e 0 parts.toList with
      | some xs => if parts.size = len ∧ len * e.size ≤ 16777216 then
          some (.val true (.one (.own key)) ((if e.hasSl then s.st.freezes (partsRows s parts.toList) else s.st).put key (.row e xs))) else none
      | none => none
    | _ => none
  | .load t a => match s.one a with
    | some a => (loadE E t a s.st).map fun v => .val true v s.st
    | none => none
  | .store t a x => match s.one a with
    | some a => match s.ev x with
      | some v => (storeE E t a v s.st).map fun st => .val true (.tup []) st
      | none => none
    | none => none
  | .nilCheck x => match s.one x with
    | some (.ref a b c d) => some (.val true (.one (.ref a b c d)) s.st)
    | some (.cptr a b c) => some (.val true (.one (.cptr a b c)) s.st)
    | some (.fn f l) => some (.val true (.one (.fn f l)) s.st)
    | _ => none
  | .binOp op t x y _ => match s.ev x with
    | some a => match s.ev y with
      | some b => (binE E op t a b s.st).map fun cv => .val cv.1 (.one cv.2) s.st
      | none => none
    | none => none
  | .unOp op _ x => match op with
    | .not => (s.bool x).map fun b => .val true (.one (.pure .bool (!b))) s.st
    | .neg => (s.int x).map fun kn => .val true (.one (.pure (.int kn.1) (kn.1.wrap (0 - kn.2)))) s.st
    | .xor => (s.int x).map fun kn => .val true (.one (.pure (.int kn.1) (kn.1.wrap (BitVec.ofInt kn.1.bits (if kn.1.signed then -1 else kn.1.max) ^^^ BitVec.ofInt kn.1.bits kn.2).toNat))) s.st
    | _ => none
  | .convert src dst x => match s.ev x with
    | some v => convE E src dst v s.st
    | none => none
  | .makeSlice t l c => match E.ty t with
    | some (.sl e) => match E.bytes t with
      | some by_ => match s.int l with
        | some (_, n) => match s.int c with
          | some (_, m) => some (.val (decide (0 ≤ n) && decide (n ≤ m) && decide (m * by_ ≤ maxBytes) && decide (m ≤ 9223372036854775807)) (.one (.own key)) (s.st.put key (.row e (List.replicate n.toNat e.dflt))))
          | none => none
        | none => none
      | none => none
    | _ => none
  | .slice t x lo hi mx => match mx with
    | none => match E.ty t with
      | some (.sl e) => match s.one x with
        | some a => match lenOfAV s.st a with
          | some len => match bnd s lo 0 with
            | some l => match bnd s hi len with
              | some h => sliceE s.st e a len l h
              | none => none
            | none => none
          | none => none
        | none => none
      | _ => none
    | some _ => none
  | .fieldAddr t x f => match E.fld t f with
    | some (d, _) => match s.one x with
      | some (.ref k i sz off) => some (.val true (.one (.ref k i sz (off + d))) s.st)
      | some (.cptr e x off) => some (.val true (.one (.cptr e x (off + d))) s.st)
      | _ => none
    | none => none
  | .indexAddr t x ix => match E.ty t with
    | some (.sl e) => match s.one x with
      | some a => match s.int ix with
        | some (_, i) => indexE s.st e a i
        | none => none
      | none => none
    | _ => none
  | .extract t i => match s.ev t with
    | some (.tup l) => (l[i]?).map fun a => .val true (.one a) s.st
    | _ => none
  | .call c => callE E key c s
  | .makeFunc fn first captured => match fn with
    | .func f => if first.size = 0 then (match capKeys s captured.toList with
      | some ks => some (.val true (.one (.fn f ks)) s.st)
      | none => none) else none
    | _ => none
  | .makeMap t r => match r with
    | none => match E.mapT t with
      | some (k, v) => some (.val true (.one (.own key)) (s.st.put key (.map k v [] 0)))
      | none => none
    | some _ => none
  | .lookup t x ix ok => match s.one x with
    | some a => match s.ev ix with
      | some sl => (lookupE E t a sl ok s.st).map fun v => .val true v s.st
      | none => none
    | none => none
  | .mapUpdate t x ix y => match s.one x with
    | some a => match s.ev ix with
      | some sl => match s.ev y with
        | some vy => (mapUpdateE E t a sl vy s.st).map fun st => .val true (.tup []) st
        | none => none
      | none => none
    | none => none
  | _ => none

/-! ### Regions and code -/
noncomputable def St.set (s : St) (d : Option Tmp) (v : Slot) : St :=
  match d with
  | some t => { s with tmps := s.tmps.set t v }
  | none => s
noncomputable def St.after (s : St) (d : Option Tmp) (v : Slot) (st : Store) : St :=
  match d with
  | some t => { tmps := s.tmps.set t v, st := st, next := s.next }
  | none => { tmps := s.tmps, st := st, next := s.next }

/-- What a guard says. -/
inductive Gd
  | run
  | skip
  | test (t : Tmp) (want b : Bool)
noncomputable def guardOf (ops : Array Oper) (o : Oper) (s : St) : Option Gd :=
  match o.guard with
  | none => some .run
  | some (j, want) => match (ops[j]?).bind (·.dst) with
    | some t => match s.tmps[t]? with
      | some (.one (.pure .bool b)) => some (.test t want b)
      | some (.tup []) => some .skip
      | _ => none
    | none => none

/-- A call of a function: its contract, its arguments, the rows that it may keep frozen. -/
noncomputable def callV (E : Env) (f : FuncId) (args : List Operand) (s : St) : Option ((sp : Spec) × Tup sp.ins × Store) :=
  match E.call f with
  | some sp => match s.evs args with
    | some as => match argsAs s.st sp.ins as with
      | some x => if freshes sp.outs ≤ 4 then some ⟨sp, x, if outsHold sp.outs then s.st.freezes (as.flatMap Slot.rows) else s.st⟩ else none
      | none => none
    | none => none
  | none => none
noncomputable def pickV (c a b : Operand) (s : St) : Option (Bool × Slot × Slot) :=
  match s.bool c with
  | some c => match s.ev a with
    | some a => match s.ev b with
      | some b => some (c, a, b)
      | none => none
    | none => none
  | none => none

/-- How an operation is evaluated. -/
inductive Kind
  | pick (c a b : Operand)
  | call (f : FuncId) (args : List Operand)
  | val
noncomputable def kindOf (o : Oper) : Kind :=
  match o.op with
  | .pick c a b => .pick c a b
  | .call c => match c.callee with
    | .value (.func f) => .call f c.args.toList
    | _ => .val
  | _ => .val

/-- The variables that a closure has caught. -/
noncomputable def capsSlots (st : Store) : List Nat → Option (List Slot)
  | [] => some []
  | k :: r => match st.get k with
    | some (.cells _) => match capsSlots st r with
      | some l => some (.one (.ref k 0 0 0) :: l)
      | none => none
    | _ => none
/-- A call that has a contract over slots. -/
noncomputable def extOf (E : Env) (o : Oper) (s : St) : Option ((Nat → List Slot → Store → Option ExtR) × List Slot) :=
  match o.op with
  | .call c => match c.callee with
    | .value x => match s.ev x with
      | some (.one (.fn f caps)) => match E.ext f with
        | some X => match s.evs c.args.toList with
          | some as => match capsSlots s.st caps with
            | some l => some (X, as ++ l)
            | none => none
          | none => none
        | none => none
      | _ => none
    | _ => none
  | _ => none
noncomputable def extGo (Y : Option ExtR) : Option (Slot × Store) :=
  match Y with
  | some ⟨_, some d, out⟩ => some (out d)
  | _ => none
/-- One operation, without what comes behind. -/
noncomputable def stepD (E : Env) (key : Nat) (o : Oper) (s : St) : Option (Slot × Store) :=
  match extOf E o s with
  | some (X, as) => extGo (X key as s.st)
  | none => match kindOf o with
  | .pick c a b => match pickV c a b s with
    | some (c, a, b) => some (if c = true then a else b, s.st)
    | none => none
  | .call f args => match callV E f args s with
    | some ⟨sp, x, st⟩ => match sp.F x with
      | some r => some (slotOf (resAVs sp.outs r key), resStore sp.outs r key st)
      | none => none
    | none => none
  | .val => match evalOp E key o s with
    | some (.val c v st) => if c = true then some (v, st) else none
    | none => none
/-- The same under its guard. -/
noncomputable def stepG (E : Env) (ops : Array Oper) (key : Nat) (o : Oper) (s : St) : Option (Slot × Store) :=
  match guardOf ops o s with
  | none => none
  | some .run => stepD E key o s
  | some .skip => some (.tup [], s.st)
  | some (.test _ want b) => if b = want then stepD E key o s else some (.tup [], s.st)

variable {R : Type}
noncomputable def runOp (E : Env) (key : Nat) (o : Oper) (s : St) (K : St → Option R) : Option R :=
  match extOf E o s with
  | some (X, as) => match X key as s.st with
    | some ⟨_, val, out⟩ => match val with
      | some d => K (s.after o.dst (out d).1 (out d).2)
      | none => none
    | none => none
  | none => match kindOf o with
  | .pick c a b => match pickV c a b s with
    | none => none
    | some (c, a, b) => match a, b with
      | .one (.pure t x), .one (.pure t' y) => if h : t' = t then K (s.after o.dst (.one (.pure t (bif c then x else castTy h y))) s.st) else none
      | a, b => bif c then K (s.after o.dst a s.st) else K (s.after o.dst b s.st)
  | .call f args => match callV E f args s with
    | none => none
    | some ⟨sp, x, st⟩ => match sp.F x with
      | none => none
      | some r => K (s.after o.dst (slotOf (resAVs sp.outs r key)) (resStore sp.outs r key st))
  | .val => match evalOp E key o s with
    | none => none
    | some (.val c v st) => bif c then K (s.after o.dst v st) else none

/-- The same under its guard. -/
noncomputable def runG (E : Env) (ops : Array Oper) (key : Nat) (o : Oper) (s : St) (K : St → Option R) : Option R :=
  match guardOf ops o s with
  | none => none
  | some .run => runOp E key o s K
  | some .skip => K (s.set o.dst (.tup []))
  | some (.test t true b) => bif b then runOp E key o (s.set (some t) (.one (.pure .bool true))) K else K ((s.set (some t) (.one (.pure .bool false))).set o.dst (.tup []))
  | some (.test t false b) => bif b then K ((s.set (some t) (.one (.pure .bool true))).set o.dst (.tup [])) else runOp E key o (s.set (some t) (.one (.pure .bool false))) K

noncomputable def runOps (E : Env) (ops : Array Oper) : (key : Nat) → List Oper → St → (St → Option R) → Option R
  | _, [], s, K => K s
  | key, o :: r, s, K => runG E ops key o s fun s' => runOps E ops (key + 4) r s' K

/-! ### Regions that draw their order: unordered operations must not touch what the other writes -/
noncomputable def AV.keys : AV → List Nat
  | .own o => [o]
  | .view o _ _ _ => [o]
  | .ref o _ _ _ => [o]
  | .fn _ caps => caps
  | _ => []
noncomputable def Slot.keys : Slot → List Nat
  | .one a => a.keys
  | .agg cs => cs.flatMap AV.keys
  | .tup l => l.flatMap AV.keys
noncomputable def opKeys (o : Oper) (s : St) : List Nat := o.op.operands.toList.flatMap fun x => match s.ev x with
  | some sl => sl.keys
  | none => []
/-- What an object's cells lead to. -/
noncomputable def leads (st : Store) (k : Nat) : List Nat :=
  match st.get k with
  | some (.cells cs) => cs.flatMap AV.keys
  | _ => []
/-- Keys, and those that they lead to. -/
noncomputable def reach (st : Store) : Nat → List Nat → List Nat
  | 0, l => l
  | n + 1, l => l ++ reach st n (l.flatMap (leads st))
def isCall (o : Oper) : Bool :=
  match o.op with
  | .call c => match c.callee with
    | .value _ => true
    | _ => false
  | _ => false
noncomputable def touch (o : Oper) (s : St) : List Nat := bif isCall o then reach s.st 3 (opKeys o s) else opKeys o s
/-- May it write what it touches? -/
noncomputable def writesB (E : Env) (o : Oper) : Bool :=
  match o.op with
  | .store _ _ _ => true
  | .buildSlice t _ _ => match E.ty t with
    | some (.sl e) => e.hasSl
    | _ => true
  | .mapUpdate _ _ _ _ => true
  | .call c => match c.callee with
    | .builtin .append => true
    | .builtin .delete => true
    | .builtin _ => false
    | .value (.func f) => match E.ext f with
      | some _ => true
      | none => match E.call f with
        | some sp => outsHold sp.outs
        | none => true
    | _ => true
  | _ => false
def tmpOf : Operand → List Tmp
  | .tmp t => [t]
  | _ => []
noncomputable def keysAt (s : St) (x : Operand) : List Nat :=
  match s.ev x with
  | some sl => sl.keys
  | none => []
/-- Of what it touches: what it may write. -/
noncomputable def wkeys (E : Env) (o : Oper) (s : St) : List Nat :=
  bif writesB E o then (match o.op with
    | .store t x y => keysAt s x ++ (match E.ty t with
      | some u => bif u.hasSl then keysAt s y else []
      | none => [])
    | .call c => match c.callee with
      | .builtin .append => match c.args.toList with
        | [x, y] => match c.argTypes.toList with
          | [t, _] => match E.ty t with
            | some (.sl _) => keysAt s x
            | _ => touch o s
          | _ => touch o s
        | _ => touch o s
      | _ => touch o s
    | _ => touch o s) else []
/-- The slots that it reads. -/
def looks (ops : Array Oper) (o : Oper) : List Tmp :=
  o.op.operands.toList.flatMap tmpOf ++ (match o.guard with
    | some (j, _) => ((ops[j]?).bind (·.dst)).toList
    | none => [])
def edges (o : Oper) : List Nat := (o.after.toList.filter fun e => Region.binds .any e).map (·.on)
/-- A set of places, as a number's bits. -/
def hasBit (m i : Nat) : Bool := !Nat.beq (Nat.land (Nat.shiftRight m i) 1) 0
def bitOf (i : Nat) : Nat := Nat.shiftLeft 1 i
structure Row where
  ix : Nat
  dst : Option Tmp
  looks : List Tmp
  touch : List Nat
  wr : List Nat
  before : Nat
def disjoint (l m : List Nat) : Bool := l.all fun k => !m.contains k
def apart (x y : Row) : Bool :=
  (match x.dst with | some d => !y.looks.contains d && !(y.dst == some d) | none => true) && (match y.dst with | some d => !x.looks.contains d | none => true) &&
  (disjoint x.wr y.touch && disjoint y.wr x.touch)
/-- What stands ahead of an operation by the edges: of those ahead it is known already. -/
def befFind (e : Nat) : List (Nat × Nat) → Nat
  | [] => 0
  | p :: r => bif Nat.beq p.1 e then p.2 else befFind e r
def befEdges (b : List (Nat × Nat)) : List Nat → Nat
  | [] => 0
  | e :: r => Nat.lor (Nat.lor (bitOf e) (befFind e b)) (befEdges b r)
def befOf (o : Oper) (b : List (Nat × Nat)) : Nat := befEdges b (edges o)
noncomputable def rowOf (E : Env) (ops : Array Oper) (i : Nat) (o : Oper) (s : St) (b : List (Nat × Nat)) : Row :=
  { ix := i, dst := o.dst, looks := looks ops o, touch := touch o s, wr := wkeys E o s, before := befOf o b }
def rowOk (base : Nat) (r : Row) (acc : List Row) : Bool :=
  Nat.ble (r.before + 1) (Nat.pow 2 r.ix) && (r.touch.all fun k => decide (k < base) || hasBit r.before ((k - base) / 4)) &&
  acc.all fun x => hasBit r.before x.ix || apart x r
noncomputable def runOpsD (E : Env) (ops : Array Oper) (base : Nat) : (i : Nat) → List Oper → St → List (Nat × Nat) → List Row → (St → Option R) → Option R
  | _, [], s, _, _, K => K s
  | i, o :: r, s, b, acc, K =>
    if rowOk base (rowOf E ops i o s b) acc then runG E ops (base + 4 * i) o s fun s' => runOpsD E ops base (i + 1) r s' ((i, befOf o b) :: b) (rowOf E ops i o s b :: acc) K else none

inductive Ex
  | normal
  | exit (id : Nat)
  | ret

/-! ### A point at which ways meet: what is not wanted any more is struck, the rest is numbered anew -/
noncomputable def ownify (s : St) : List (Nat × Option Ty) → St
  | [] => s
  | (_, none) :: r => ownify s r
  | (i, some e) :: r => match s.tmps[i]? with
    | some (.one .nil) => ownify { tmps := s.tmps.set i (.one (.own s.next)), st := s.st.put s.next (.row e []), next := s.next + 1 } r
    | some (.one (.view k sz lo n)) => if sz = e.size then (match s.st.wrow k e with
      | some xs => ownify { tmps := s.tmps.set i (.one (.own s.next)), st := (s.st.erase k).put s.next (.row e ((xs.drop lo).take n)), next := s.next + 1 } r
      | none => ownify s r) else ownify s r
    | _ => ownify s r

noncomputable def idxOf (k : Nat) : List Nat → Nat → Option Nat
  | [], _ => none
  | j :: r, i => if j = k then some i else idxOf k r (i + 1)
noncomputable def idxsOf (σ : List Nat) : List Nat → Option (List Nat)
  | [] => some []
  | k :: r => match idxOf k σ 0 with
    | some i => match idxsOf σ r with
      | some l => some (i :: l)
      | none => none
    | none => none
noncomputable def AV.ren (σ : List Nat) : AV → AV
  | .own k => match idxOf k σ 0 with | some i => .own i | none => .dead
  | .view k sz lo n => match idxOf k σ 0 with | some i => .view i sz lo n | none => .dead
  | .ref k i sz off => match idxOf k σ 0 with | some j => .ref j i sz off | none => .dead
  | .fn f caps => match idxsOf σ caps with | some l => .fn f l | none => .dead
  | a => a
noncomputable def Slot.ren (σ : List Nat) : Slot → Slot
  | .one a => .one (a.ren σ)
  | .agg cs => .agg (cs.map (AV.ren σ))
  | .tup l => .tup (l.map (AV.ren σ))
noncomputable def Ob.ren (σ : List Nat) : Ob → Ob
  | .cells cs => .cells (cs.map (AV.ren σ))
  | .ghost sl => .ghost (sl.map (Slot.ren σ))
  | o => o
/-- The objects that the keys lead to, each once. -/
noncomputable def collect (st : Store) : Nat → List Nat → List Nat → List Nat
  | 0, _, acc => acc
  | _ + 1, [], acc => acc
  | n + 1, k :: r, acc => if acc.contains k then collect st n r acc else match st.get k with
    | none => collect st n r acc
    | some (.cells cs) => collect st n (cs.flatMap AV.keys ++ r) (acc ++ [k])
    | some (.ghost sl) => collect st n (sl.flatMap Slot.keys ++ r) (acc ++ [k])
    | some _ => collect st n r (acc ++ [k])
noncomputable def renStore (st : Store) (σ : List Nat) : List Nat → Nat → Store
  | [], _ => []
  | k :: r, i => match st.get k with
    | some o => (i, o.ren σ) :: renStore st σ r (i + 1)
    | none => renStore st σ r (i + 1)
noncomputable def keepSlots (live : List Nat) (σ : List Nat) : List Slot → Nat → List Slot
  | [], _ => []
  | sl :: r, i => (if live.contains i then sl.ren σ else .one .dead) :: keepSlots live σ r (i + 1)
noncomputable def liveKeys (live : List Nat) : List Slot → Nat → List Nat
  | [], _ => []
  | sl :: r, i => (if live.contains i then sl.keys else []) ++ liveKeys live r (i + 1)
noncomputable def ghostKeys : Store → List Nat
  | [] => []
  | (k, .ghost _) :: r => k :: ghostKeys r
  | _ :: r => ghostKeys r
noncomputable def gc (live : List Nat) (s : St) : St :=
  let σ := collect s.st 1000 (ghostKeys s.st ++ liveKeys live s.tmps 0) []
  { tmps := keepSlots live σ s.tmps 0, st := renStore s.st σ σ 0, next := σ.length }
noncomputable def firstRegion : Code → Option Nat
  | .region id _ _ => some id
  | .seq a b => match firstRegion a with
    | some i => some i
    | none => firstRegion b
  | .block _ c => firstRegion c
  | .loop c => firstRegion c
  | .scope c => firstRegion c
  | _ => none
noncomputable def canon (E : Env) (c : Code) (s : St) : St :=
  match firstRegion c with
  | none => s
  | some id => match E.hint id with
    | none => s
    | some h => gc (h.map (·.1)) (ownify s h)

/-! ### Code -/
noncomputable def loopN (canon : St → St) (step : (Ex → St → Option R) → St → Option R) : Nat → (Ex → St → Option R) → St → Option R
  | 0, _, _ => none
  | n + 1, K, s => step (fun e s' => match e with
    | .normal => loopN canon step n K (canon s')
    | e => K e s') s

noncomputable def evalC (E : Env) (fuel : Nat) : Code → (Ex → St → Option R) → St → Option R
  | .skip, K, s => K .normal s
  | .label _, K, s => K .normal s
  | .region _ ops draw, K, s => if draw then runOpsD E ops s.next 0 ops.toList s [] [] fun s' => K .normal { tmps := s'.tmps, st := s'.st, next := s.next + 4 * ops.size }
      else runOps E ops s.next ops.toList s fun s' => K .normal { tmps := s'.tmps, st := s'.st, next := s.next + 4 * ops.size }
  | .seq a b, K, s => evalC E fuel a (fun e s' => match e with
    | .normal => evalC E fuel b K (canon E b s')
    | e => K e s') s
  | .cond c a b, K, s => match s.bool c with
    | some x => bif x then evalC E fuel a K s else evalC E fuel b K s
    | none => none
  | .block id c, K, s => evalC E fuel c (fun e s' => match e with
    | .exit j => if j = id then K .normal s' else K (.exit j) s'
    | e => K e s') s
  | .loop body, K, s => loopN (canon E body) (fun K' s' => evalC E fuel body K' s') fuel K (canon E body s)
  | .exit id, K, s => K (.exit id) s
  | .scope c, K, s => evalC E fuel c K s
  | .ret, K, s => K .ret s
  | _, _, _ => none

/-! ### A function -/
noncomputable def argSlots : (ts : List Ty) → Tup ts → List Slot
  | [], _ => []
  | t :: ts, x => .one (.pure t x.1) :: argSlots ts x.2
noncomputable def startSt (ts : List Ty) (x : Tup ts) (n : Nat) : St := { tmps := argSlots ts x ++ List.replicate (n - ts.length) (.one .dead), st := [], next := 0 }

noncomputable def resSlots (E : Env) (s : St) : List ResultVar → Option (List Slot)
  | [] => some []
  | .tmp t :: r => match s.tmps[t]? with
    | some sl => match resSlots E s r with
      | some l => some (sl :: l)
      | none => none
    | none => none
  | .cell a t :: r => match s.tmps[a]? with
    | some (.one av) => match loadE E t av s.st with
      | some sl => match resSlots E s r with
        | some l => some (sl :: l)
        | none => none
      | none => none
    | _ => none

noncomputable def freshKey : Slot → Option Nat
  | .one (.own k) => some k
  | .one (.view k _ _ _) => some k
  | _ => none
noncomputable def freshAs (st : Store) (e : Ty) : Slot → Option (List e.den)
  | .one (.own k) => st.wrow k e
  | .one (.view k sz lo n) => if sz = e.size then (match st.wrow k e with
    | some xs => some ((xs.drop lo).take n)
    | none => none) else none
  | .one .nil => some []
  | _ => none
noncomputable def freshKeys : List OT → List Slot → List Nat
  | .fresh _ :: r, sl :: l => (freshKey sl).toList ++ freshKeys r l
  | .pure _ :: r, _ :: l => freshKeys r l
  | _, _ => []
noncomputable def pureRows : List OT → List Slot → List Nat
  | .fresh _ :: r, _ :: l => pureRows r l
  | .pure _ :: r, sl :: l => sl.rows ++ pureRows r l
  | _, _ => []
noncomputable def outsAs (st : Store) : (outs : List OT) → List Slot → Option (OTup outs)
  | [], [] => some ()
  | .pure t :: r, sl :: l => match sl.as st t with
    | some x => match outsAs st r l with
      | some y => some (x, y)
      | none => none
    | none => none
  | .fresh t :: r, sl :: l => match freshAs st t sl with
    | some x => match outsAs st r l with
      | some y => some (x, y)
      | none => none
    | none => none
  | _, _ => none
def nodupB : List Nat → Bool
  | [] => true
  | k :: r => !r.contains k && nodupB r
noncomputable def finish (E : Env) (outs : List OT) (rs : List ResultVar) (s : St) : Option (OTup outs) :=
  match resSlots E s rs with
  | some l => if nodupB (freshKeys outs l) && disjoint (freshKeys outs l) (pureRows outs l) then outsAs s.st outs l else none
  | none => none

noncomputable def evalBody (E : Env) (fuel : Nat) (fn : Func) (c : Code) (ins : List Ty) (outs : List OT) (x : Tup ins) : Option (OTup outs) :=
  evalC E fuel c (fun e s => match e with
    | .exit _ => none
    | _ => finish E outs fn.results.toList s) (startSt ins x fn.ntmps)
end Go.Ev
