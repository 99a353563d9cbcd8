/- What the evaluation knows of a program, out of the program's own tables: the definitions. Loops as rounds. -/
import Derived.Test.YtdchhhedpipeiaaEvA
set_option linter.unusedVariables false
namespace Go.Ev

noncomputable def zeroLeaf (t : Ty) (v : Value) : Bool :=
  match t with
  | .int k => match v with
    | .int k' n => decide (k' = k) && decide (n = 0)
    | _ => false
  | .bool => match v with
    | .bool b => !b
    | _ => false
  | .f64 => match v with
    | .float k n => decide (k = .f64) && decide (n = 0)
    | _ => false
  | .str => match v with
    | .string s => decide (s = ⟨#[]⟩)
    | _ => false
  | .sl e => match v with
    | .slice a n c => a.isNone && decide (n = 0) && decide (c = 0)
    | _ => false
  | _ => false
noncomputable def takeLeaf (t : Ty) : List Value → Option (List Value)
  | v :: r => bif zeroLeaf t v then some r else none
  | [] => none
/-- These cells begin with plain data at their zero: what lies behind. -/
noncomputable def zeroTake : Ty → List Value → Option (List Value)
  | .unit, r => some r
  | .one a, r => zeroTake a r
  | .pair a b, r => match zeroTake a r with
    | some r' => zeroTake b r'
    | none => none
  | .int k, r => takeLeaf (.int k) r
  | .bool, r => takeLeaf .bool r
  | .f64, r => takeLeaf .f64 r
  | .str, r => takeLeaf .str r
  | .sl e, r => takeLeaf (.sl e) r

/-! ### Types -/
def packR : Ty → List Ty → Ty
  | a, [] => a
  | a, b :: r => .pair a (packR b r)
/-- A struct of these fields. -/
def packTy : List Ty → Ty
  | [] => .unit
  | [a] => .one a
  | a :: b :: r => .pair a (packR b r)
/-- The fields' types; each begins where the one before ends. -/
noncomputable def allOf (g : TypeId → Option Ty) : Nat → List Field → Option (List Ty)
  | _, [] => some []
  | o, f :: r => match g f.type with
    | some a => bif Nat.beq f.offset o then (match allOf g (o + a.size) r with
      | some l => some (a :: l)
      | none => none) else none
    | none => none
/-- No element takes fewer bytes. -/
def _root_.Go.Ev.Ty.lb : Ty → Nat
  | .int k => k.bits / 8
  | .bool => 1
  | .f64 => 8
  | .str => 16
  | .unit => 0
  | .one a => a.lb
  | .pair a b => a.lb + b.lb
  | .sl _ => 24
noncomputable def sized (n m : Nat) (u : Ty) : Option Ty := bif Nat.beq n m then some u else none
/-- A type's plain data. -/
noncomputable def tyOf (P : Program) : Nat → TypeId → Option Ty
  | 0, _ => none
  | d + 1, T => match P.info? T with
    | none => none
    | some i => match P.underlying T with
      | some (.int k) => sized i.size 1 (.int k)
      | some .bool => sized i.size 1 .bool
      | some (.float .f64) => sized i.size 1 .f64
      | some .string => sized i.size 1 .str
      | some (.slice te) => match tyOf P d te with
        | some e => match (P.info? te).bind (·.zero) with
          | some z => match zeroTake e z.cells.toList with
            | some [] => bif Nat.ble e.lb (P.bytesOf te) && Nat.ble 1 e.size then sized i.size 1 (.sl e) else none
            | _ => none
          | none => none
        | none => none
      | some (.struct fs) => match allOf (tyOf P d) 0 fs.toList with
        | some l => sized i.size (packTy l).size (packTy l)
        | none => none
      | _ => none

noncomputable def aggD : TypeDesc → Bool
  | .struct _ => true
  | .array _ _ => true
  | _ => false
noncomputable def fldOf (P : Program) (T : TypeId) (i : Nat) : Option (Nat × Nat) :=
  match P.underlying T with
  | some (.struct fs) => match fs[i]? with
    | some f => match P.info? f.type with
      | some j => bif Nat.beq j.size 0 then none else some (f.offset, j.size)
      | none => none
    | none => none
  | _ => none
noncomputable def shapeOf (P : Program) (T : TypeId) : Option (Nat × Bool) :=
  match P.info? T with
  | some i => match P.underlying T with
    | some d => some (i.size, aggD d)
    | none => none
  | none => none
noncomputable def strctOf (P : Program) (T : TypeId) : Bool :=
  match P.underlying T with
  | some (.struct fs) => fs.toList.all fun f => (P.info? f.type).isSome
  | _ => false
noncomputable def zeroOf (P : Program) (T : TypeId) : Option (List AV) :=
  match (P.info? T).bind (·.zero) with
  | some v => constAVs v.cells.toList
  | none => none
noncomputable def bytesOf (P : Program) (T : TypeId) : Option Nat :=
  match P.underlying T with
  | some (.slice te) => match P.info? te with
    | some i => bif Nat.beq i.bytes 0 then none else some i.bytes
    | none => none
  | _ => none
/-- A type's plain data, if '==' compares it part by part. -/
noncomputable def keyTy (P : Program) : Nat → TypeId → Option Ty
  | 0, _ => none
  | d + 1, T => match P.info? T with
    | none => none
    | some i => match P.underlying T with
      | some (.int k) => sized i.size 1 (.int k)
      | some .bool => sized i.size 1 .bool
      | some .string => sized i.size 1 .str
      | some (.struct fs) => bif P.stoodInHeld T || fs.toList.any (fun f => f.name == "_") then none else match allOf (keyTy P d) 0 fs.toList with
        | some l => sized i.size (packTy l).size (packTy l)
        | none => none
      | _ => none
def _root_.Go.Ev.Ty.isBool : Ty → Bool
  | .bool => true
  | _ => false
noncomputable def eqOf (P : Program) (T : TypeId) : Option Ty :=
  match keyTy P 12 T with
  | some u => bif (u.isAgg || u.isBool) && !P.eqGuardType P.depth T then some u else none
  | none => none
noncomputable def zeroFits (v : Ty) (z : Value) : Bool :=
  match zeroTake v z.cells.toList with
  | some [] => match z with
    | .agg _ => v.isAgg
    | .tuple _ => false
    | _ => !v.isAgg
  | _ => false
noncomputable def mapOf (P : Program) (T : TypeId) : Option (Ty × Ty) :=
  match P.underlying T with
  | some (.map tk tv) => match keyTy P 12 tk with
    | some k => match tyOf P 12 tv with
      | some v => match (P.info? tv).bind (·.zero) with
        | some z => bif zeroFits v z then some (k, v) else none
        | none => none
      | none => none
    | none => none
  | _ => none

/-- The evaluation's knowledge, with contracts of callees and the loops' live slots. -/
noncomputable def envOf (P : Program) (call : FuncId → Option Spec) (ext : FuncId → Option (Nat → List Slot → Store → Option ExtR)) (hint : Nat → Option (List (Nat × Option Ty))) : Env where
  ty := tyOf P 12
  fld := fldOf P
  shape := shapeOf P
  strct := strctOf P
  zero := zeroOf P
  bytes := bytesOf P
  eqt := eqOf P
  mapT := mapOf P
  call := call
  ext := ext
  hint := hint


noncomputable def pick {α : Type _} : List (Nat × α) → Nat → Option α
  | [], _ => none
  | (j, a) :: r, k => bif Nat.beq j k then some a else pick r k

/-! ### Loops -/
variable {R : Type}
/-- Where a loop stands, by its first region: its body, and what comes behind it. -/
noncomputable def spot (E : Env) (fuel : Nat) (id : Nat) : Code → (Ex → St → Option R) → Option (Code × (Ex → St → Option R))
  | .seq a b, K => match spot E fuel id a (fun e s' => match e with
      | .normal => evalC E fuel b K (canon E b s')
      | e => K e s') with
    | some r => some r
    | none => spot E fuel id b K
  | .cond c a b, K => match spot E fuel id a K with
    | some r => some r
    | none => spot E fuel id b K
  | .block i c, K => spot E fuel id c (fun e s' => match e with
    | .exit j => if j = i then K .normal s' else K (.exit j) s'
    | e => K e s')
  | .scope c, K => spot E fuel id c K
  | .loop body, K => match firstRegion body with
    | some i => bif Nat.beq i id then some (body, K) else none
    | none => none
  | _, _ => none
/-- The loop there, from its head on. -/
noncomputable def loopAt (E : Env) (fuel : Nat) (id : Nat) (c : Code) (K : Ex → St → Option R) (n : Nat) (s : St) : Option R :=
  match spot E fuel id c K with
  | some (body, K') => loopN (canon E body) (fun K' s' => evalC E fuel body K' s') n K' s
  | none => none
/-- One round: its body behind which k comes. -/
noncomputable def roundK (E : Env) (body : Code) (K : Ex → St → Option R) (k : St → Option R) : Ex → St → Option R := fun e s' => match e with
  | .normal => k (canon E body s')
  | e => K e s'
noncomputable def bodyAt (E : Env) (fuel : Nat) (id : Nat) (c : Code) (K : Ex → St → Option R) (k : St → Option R) (s : St) : Option R :=
  match spot E fuel id c K with
  | some (body, K') => evalC E fuel body (roundK E body K' k) s
  | none => none
/-- The loop's own body and what comes behind a round, for the loops inside it. -/
noncomputable def codeAt (E : Env) (fuel : Nat) (id : Nat) (c : Code) : Code :=
  match spot (R := Unit) E fuel id c (fun _ _ => none) with
  | some (body, _) => body
  | none => .skip
noncomputable def contAt (E : Env) (fuel : Nat) (id : Nat) (c : Code) (K : Ex → St → Option R) (k : St → Option R) : Ex → St → Option R :=
  match spot E fuel id c K with
  | some (body, K') => roundK E body K' k
  | none => fun _ _ => none
/-- What comes behind a whole body. -/
noncomputable def endK (E : Env) (outs : List OT) (fn : Func) : Ex → St → Option (OTup outs) := fun e s => match e with
  | .exit _ => none
  | _ => finish E outs fn.results.toList s
def iterN {σ : Type} (B : (σ → Option R) → σ → Option R) : Nat → σ → Option R
  | 0, _ => none
  | n + 1, s => B (iterN B n) s
/-- Slots of which only these hold something. -/
def slots : Nat → Nat → List (Nat × Slot) → List Slot
  | 0, _, _ => []
  | n + 1, i, [] => .one .dead :: slots n (i + 1) []
  | n + 1, i, (j, x) :: r => if i = j then x :: slots n (i + 1) r else .one .dead :: slots n (i + 1) ((j, x) :: r)

/-! ### What is handed over by reference -/
inductive AK
  | pure (t : Ty)
  /-- A whole row of one's own. -/
  | row (e : Ty)
  /-- A pointer to a variable of one cell. -/
  | cell (t : Ty)
  /-- A closure, with the variables that it has caught. -/
  | fn (f : FuncId) (cs : List Ty)
  /-- A pointer to a variable that nobody writes. -/
  | con (t : Ty)
@[reducible] def AK.den : AK → Type
  | .pure t => t.den
  | .row e => List e.den
  | .cell t => t.den
  | .fn _ cs => Tup cs
  | .con t => t.den
@[reducible] def Data : List AK → Type
  | [] => Unit
  | k :: r => k.den × Data r
def AK.keys : AK → Nat
  | .pure _ => 0
  | .row _ => 1
  | .cell _ => 1
  | .fn _ cs => cs.length
  | .con _ => 0
def keysOf : List AK → Nat
  | [] => 0
  | k :: r => k.keys + keysOf r
noncomputable def capsOb : (cs : List Ty) → Tup cs → List Ob
  | [], _ => []
  | t :: cs, x => .cells [.pure t x.1] :: capsOb cs x.2
noncomputable def AK.obs : (k : AK) → k.den → List Ob
  | .pure _, _ => []
  | .row e, x => [.row e x]
  | .cell t, x => [.cells [.pure t x]]
  | .fn _ cs, x => capsOb cs x
  | .con _, _ => []
noncomputable def obsOf : (ks : List AK) → Data ks → List Ob
  | [], _ => []
  | k :: r, x => k.obs x.1 ++ obsOf r x.2
noncomputable def storeOf (d : Nat) : List Ob → Store
  | [] => []
  | o :: r => (d, o) :: storeOf (d + 1) r
noncomputable def AK.slot (d : Nat) : (k : AK) → k.den → Slot
  | .pure t, x => .one (.pure t x)
  | .row e, _ => .one (.own d)
  | .cell t, _ => .one (.ref d 0 0 0)
  | .fn f cs, _ => .one (.fn f (List.range' d cs.length))
  | .con t, x => .one (.cptr t x 0)
noncomputable def slotsOf : Nat → (ks : List AK) → Data ks → List Slot
  | _, [], _ => []
  | d, k :: r, x => k.slot d x.1 :: slotsOf (d + k.keys) r x.2
/-- The state at a function's head: its arguments are kept in mind at key 0. -/
noncomputable def startBy (ks : List AK) (x : Data ks) (n : Nat) : St :=
  { tmps := slotsOf 1 ks x ++ List.replicate (n - ks.length) (.one .dead), st := (0, .ghost (slotsOf 1 ks x)) :: storeOf 1 (obsOf ks x), next := 1 + keysOf ks }
noncomputable def readCell (t : Ty) (k : Nat) (st : Store) : Option t.den :=
  match st.get k with
  | some (.cells [.pure t' x]) => if h : t' = t then some (castTy h x) else none
  | _ => none
noncomputable def readCaps (st : Store) : (cs : List Ty) → List Nat → Option (Tup cs)
  | [], [] => some ()
  | t :: cs, k :: ks => match readCell t k st with
    | some x => match readCaps st cs ks with
      | some r => some (x, r)
      | none => none
    | none => none
  | _, _ => none
noncomputable def rdPure (t : Ty) : Slot → Option (t.den × List Nat)
  | .one (.pure t' x) => if h : t' = t then some (castTy h x, []) else none
  | _ => none
noncomputable def rdRow (st : Store) (e : Ty) : Slot → Option (List e.den × List Nat)
  | .one (.own k) => match st.wrow k e with
    | some xs => some (xs, [k])
    | none => none
  | _ => none
noncomputable def rdCell (st : Store) (t : Ty) : Slot → Option (t.den × List Nat)
  | .one (.ref k 0 0 0) => match readCell t k st with
    | some x => some (x, [k])
    | none => none
  | _ => none
noncomputable def rdFn (st : Store) (f : FuncId) (cs : List Ty) : Slot → Option (Tup cs × List Nat)
  | .one (.fn f' ks) => bif Nat.beq f' f then (match readCaps st cs ks with
    | some x => some (x, ks)
    | none => none) else none
  | _ => none
noncomputable def rdCon (t : Ty) : Slot → Option (t.den × List Nat)
  | .one (.cptr t' x 0) => if h : t' = t then some (castTy h x, []) else none
  | _ => none
/-- What an argument has become, and the keys of its objects. -/
noncomputable def AK.read (st : Store) : (k : AK) → Slot → Option (k.den × List Nat)
  | .pure t, a => rdPure t a
  | .row e, a => rdRow st e a
  | .cell t, a => rdCell st t a
  | .fn f cs, a => rdFn st f cs a
  | .con t, a => rdCon t a
noncomputable def readBy (st : Store) : (ks : List AK) → List Slot → Option (Data ks × List Nat)
  | [], [] => some ((), [])
  | k :: r, a :: as => match k.read st a with
    | some (x, l) => match readBy st r as with
      | some (y, m) => some ((x, y), l ++ m)
      | none => none
    | none => none
  | _, _ => none
noncomputable def endBy (E : Env) (ks : List AK) (outs : List OT) (fn : Func) : Ex → St → Option (OTup outs × Data ks) := fun e s => match e with
  | .exit _ => none
  | _ => match resSlots E s fn.results.toList with
    | some l => match outsAs s.st outs l with
      | some r => match s.st.get 0 with
        | some (.ghost g) => match readBy s.st ks g with
          | some (x, kk) => if nodupB (kk ++ freshKeys outs l) && disjoint (kk ++ freshKeys outs l) (pureRows outs l) then some (r, x) else none
          | none => none
        | _ => none
      | none => none
    | none => none
noncomputable def evalBy (E : Env) (fuel : Nat) (fn : Func) (c : Code) (ks : List AK) (outs : List OT) (x : Data ks) : Option (OTup outs × Data ks) := evalC E fuel c (endBy E ks outs fn) (startBy ks x fn.ntmps)
/-- A contract of a function that is handed things by reference: what its results and those things are in the end. -/
structure BySpec where
  ks : List AK
  outs : List OT
  F : Data ks → Option (OTup outs × Data ks)
noncomputable def putAll : List Nat → List Ob → Store → Store
  | k :: ks, o :: os, st => putAll ks os (st.put k o)
  | _, _, st => st
/-- At a caller's slots. -/
noncomputable def extBy (sp : BySpec) (key : Nat) (as : List Slot) (st : Store) : Option ExtR :=
  match readBy st sp.ks as with
  | some (x, kk) => if nodupB kk && !outsHold sp.outs && Nat.ble (freshes sp.outs) 4 then
      some ⟨OTup sp.outs × Data sp.ks, sp.F x, fun y => (slotOf (resAVs sp.outs y.1 key), resStore sp.outs y.1 key (putAll kk (obsOf sp.ks y.2) st))⟩ else none
  | none => none
end Go.Ev
