/- What the evaluation supposes of the program; what an operation leaves. -/
import Derived.Test.YtdchhhedpipeiaaEvD
set_option linter.unusedVariables false
set_option linter.unusedSimpArgs false
namespace Go.Ev
open Go.RowKit

def SizeIs (P : Program) (T : TypeId) (n : Nat) : Prop := (P.info? T).map (·.size) = some n
def ZeroIs (P : Program) (T : TypeId) (v : Value) : Prop := (P.info? T).bind (·.zero) = some v

/-- A type's number means this type of plain data. -/
def TyOk (P : Program) : Ty → TypeId → Prop
  | .int k, T => P.underlying T = some (.int k) ∧ SizeIs P T 1
  | .bool, T => P.underlying T = some .bool ∧ SizeIs P T 1
  | .f64, T => P.underlying T = some (.float .f64) ∧ SizeIs P T 1
  | .str, T => P.underlying T = some .string ∧ SizeIs P T 1
  | .sl e, T => SizeIs P T 1 ∧ ∃ te, P.underlying T = some (.slice te) ∧ TyOk P e te ∧ ∃ z, ZeroIs P te z ∧ ∀ w S, Rep w S e e.dflt z.cells.toList
  | .unit, T => SizeIs P T 0 ∧ ∃ fs, P.underlying T = some (.struct fs)
  | .one a, T => SizeIs P T a.size ∧ ∃ fs, P.underlying T = some (.struct fs)
  | .pair a b, T => SizeIs P T (a.size + b.size) ∧ ∃ fs, P.underlying T = some (.struct fs)

theorem TyOk.size {P : Program} {u : Ty} {T : TypeId} (h : TyOk P u T) : SizeIs P T u.size := by
  cases u with
  | sl e => exact h.1
  | unit => exact h.1
  | one a => exact h.1
  | pair a b => exact h.1
  | _ => exact h.2
theorem TyOk.desc {P : Program} {u : Ty} {T : TypeId} (h : TyOk P u T) : ∃ d, P.underlying T = some d := by
  cases u with
  | sl e => obtain ⟨_, te, h, _⟩ := h; exact ⟨_, h⟩
  | unit => obtain ⟨_, fs, h⟩ := h; exact ⟨_, h⟩
  | one a => obtain ⟨_, fs, h⟩ := h; exact ⟨_, h⟩
  | pair a b => obtain ⟨_, fs, h⟩ := h; exact ⟨_, h⟩
  | _ => exact ⟨_, h.1⟩

section runs
variable {P : Program} {w : World}
theorem run_underlying {T : TypeId} {d : TypeDesc} (h : P.underlying T = some d) : (underlying T).run P w = .ok d w := by simp [underlying, h]
theorem run_sizeOf {T : TypeId} {n : Nat} (h : SizeIs P T n) : (sizeOf T).run P w = .ok n w := by
  obtain ⟨i, hi, rfl⟩ := Option.map_eq_some_iff.1 h
  simp [sizeOf, typeInfo, hi]
theorem run_zero {T : TypeId} {v : Value} (h : ZeroIs P T v) : (zeroValue T).run P w = .ok v w := by
  obtain ⟨i, hi, hz⟩ := Option.bind_eq_some_iff.1 h
  simp [zeroValue, typeInfo, hi, hz]
def AggIs (P : Program) (T : TypeId) (b : Bool) : Prop := match P.underlying T with
  | some (.struct _) | some (.array _ _) => b = true
  | some _ => b = false
  | none => False
theorem run_isAgg {T : TypeId} {b : Bool} (h : AggIs P T b) : (isAgg T).run P w = .ok b w := by
  unfold AggIs at h
  unfold isAgg
  split at h
  · rename_i fs hu; subst h; simp [run_underlying hu]
  · rename_i n e hu; subst h; simp [run_underlying hu]
  · rename_i d h1 h2 hu
    subst h
    simp only [Sem.run_bind, run_underlying hu, Result.andThen_ok]
    rfl
  · exact h.elim
theorem TyOk.agg {u : Ty} {T : TypeId} (h : TyOk P u T) : AggIs P T u.isAgg := by
  unfold AggIs
  cases u with
  | sl e => obtain ⟨_, te, h, _⟩ := h; rw [h]; rfl
  | unit => obtain ⟨_, fs, h⟩ := h; rw [h]; rfl
  | one a => obtain ⟨_, fs, h⟩ := h; rw [h]; rfl
  | pair a b => obtain ⟨_, fs, h⟩ := h; rw [h]; rfl
  | _ => obtain ⟨h, _⟩ := h; rw [h]; rfl
end runs

/-! ### Contracts of callees -/
def ArgsRep (w : World) (S : Nat → Prop) : (ts : List Ty) → Tup ts → List Value → Prop
  | [], _, [] => True
  | t :: ts, x, v :: vs => (∃ cs, Rep w S t x.1 cs ∧ v = mkVal t cs) ∧ ArgsRep w S ts x.2 vs
  | _, _, _ => False

def retOf : List Value → Value
  | [v] => v
  | l => .tuple l.toArray

/-- A call's results: slices in new memory lie in blocks of their own. -/
def ResRep (B : Nat) (w : World) (S : Nat → Prop) (outs : List OT) (r : OTup outs) (v : Value) : Prop :=
  ∃ (hv : Hv) (vs : List Value), StRel w S hv (resStore outs r 0 []) ∧ All2 (AVRep w (All S hv (resStore outs r 0 [])) hv) (resAVs outs r 0) vs ∧ v = retOf vs ∧
    (∀ b, Own hv (resStore outs r 0 []) b → B ≤ b)

def Pure (tr : Bool) (P : Program) (f : FuncId) (sp : Spec) : Prop :=
  ∀ x r, sp.F x = some r → ∀ (w : World) (S : Nat → Prop) (vals : List Value), (∀ b, S b → b < w.heap.size) → ArgsRep w S sp.ins x vals →
    Calls P f vals.toArray w fun e w' => ∃ v, e = .returned v ∧ ResRep w.heap.size w' S sp.outs r v ∧ Below tr w.heap.size w w'

def Entered (P : Program) (f : FuncId) : Prop := ∀ (args : Array Value) (w : World), (callFunc f args).run P w = .ok (.enter f args) w

/-! ### What an operation leaves -/
structure Post (w0 : Base) (S0 : Nat → Prop) (hv : Hv) (st : Store) (w : World) (key : Nat) (v : Slot) (st' : Store) (hv' : Hv) (val : Value) (w' : World) : Prop where
  rel : StRel w' S0 hv' st'
  step : StepOk w (All S0 hv st) w' (All S0 hv' st')
  le : hv.le hv'
  only : ∀ k, (k < key ∨ key + 4 ≤ k) → hv' k = hv k
  rep : SlotRep w' (All S0 hv' st') hv' v val
  base : ∀ b, Own hv' st' b → w0.n ≤ b
  keep : Below w0.tr w0.n w0.w w'
  gh : ∀ k sl, st'.get k = some (.ghost sl) → hv' k = some w0.g
  kp : ∀ b, S0 b → w'.heap[b]? = w.heap[b]?

/-- A contract over slots. -/
def ExtOk (tr : Bool) (P : Program) (f : FuncId) (X : Nat → List Slot → Store → Option ExtR) : Prop :=
  ∀ (w0 : Base) (w : World) (S0 : Nat → Prop) (hv : Hv) (st : Store) (key : Nat) (as : List Slot) (vals : List Value) (R : ExtR) (d : R.D), w0.tr = tr → X key as st = some R → R.val = some d → StRel w S0 hv st → All2 (SlotRep w (All S0 hv st) hv) as vals →
    (∀ b, Own hv st b → w0.n ≤ b) → (∀ b, S0 b → b < w0.w.heap.size) → Below w0.tr w0.n w0.w w → (∀ k sl, st.get k = some (.ghost sl) → hv k = some w0.g) → (∀ j, j < 4 → hv (key + j) = none) →
    Calls P f vals.toArray w fun e w' => ∃ v hv', e = .returned v ∧ Post w0 S0 hv st w key (R.out d).1 (R.out d).2 hv' v w'

/-- A contract over slots hangs on what its slots lead to alone, and leaves the rest. -/
structure ExtLocal (X : Nat → List Slot → Store → Option ExtR) : Prop where
  congr : ∀ (key : Nat) (as : List Slot) (st1 st2 : Store) (R : ExtR) (d : R.D), X key as st1 = some R → R.val = some d → (∀ k ∈ reach st1 3 (as.flatMap Slot.keys), st1.get k = st2.get k) →
    ∃ (R' : ExtR) (d' : R'.D), X key as st2 = some R' ∧ R'.val = some d' ∧ (R'.out d').1 = (R.out d).1 ∧ ∀ k, st1.get k = st2.get k → (R.out d).2.get k = (R'.out d').2.get k
  frame : ∀ (key : Nat) (as : List Slot) (st : Store) (R : ExtR) (d : R.D) (k : Nat), X key as st = some R → R.val = some d → (k < key ∨ key + 4 ≤ k) → k ∉ reach st 3 (as.flatMap Slot.keys) → (R.out d).2.get k = st.get k

/-- What the model says of keys. -/
structure KeyOk (P : Program) (k : Ty) (tk : TypeId) : Prop where
  keyed : k.keyed = true
  eq : ∀ (w : World) (S : Nat → Prop) (x y : k.den) (cx cy : List Value), Rep w S k x cx → Rep w S k y cy → (Op.equal tk (mkVal k cx) (mkVal k cy)).run P w = .ok (keyEq k x y) w
  und : ∃ d, P.underlying tk = some d ∧ ∀ (w : World) (S : Nat → Prop) (x y : k.den) (cx cy : List Value) (c : Bool), Rep w S k x cx → Rep w S k y cy → Instr.sameNow d (mkVal k cx) (mkVal k cy) = some c → c = keyEq k x y
  chk : ∀ (e : Bool) (w : World) (S : Nat → Prop) (x : k.den) (cx : List Value), Rep w S k x cx → (Instr.checkKey e 10000 tk (mkVal k cx)).run P w = .ok () w

structure EnvOk (tr : Bool) (P : Program) (E : Env) : Prop where
  ty : ∀ T u, E.ty T = some u → TyOk P u T
  bytes : ∀ T n, E.bytes T = some n → ∀ te, P.underlying T = some (.slice te) → (P.info? te).map (·.bytes) = some n ∧ 0 < n
  shape : ∀ T n g, E.shape T = some (n, g) → SizeIs P T n ∧ AggIs P T g
  fld : ∀ T i off n, E.fld T i = some (off, n) → n ≠ 0 ∧ ∃ fs f, P.underlying T = some (.struct fs) ∧ fs[i]? = some f ∧ f.offset = off ∧ SizeIs P f.type n
  strct : ∀ T, E.strct T = true → ∃ fs, P.underlying T = some (.struct fs) ∧ ∀ f ∈ fs.toList, ∃ m, SizeIs P f.type m
  zero : ∀ T cs, E.zero T = some cs → ∃ v, ZeroIs P T v ∧ ∀ w S hv, All2 (CRep w S hv) cs v.cells.toList
  eqt : ∀ T u, E.eqt T = some u → (u = .bool ∨ u.isAgg = true) ∧ ∀ w S x y c cx cy, Rep w S u x cx → Rep w S u y cy → eqDen u x y = some c →
    (Op.equal T (mkVal u cx) (mkVal u cy)).run P w = .ok c w ∧ ∀ op o1 o2, (eqGuard op T o1 o2 (mkVal u cx) (mkVal u cy)).run P w = .ok () w
  call : ∀ f sp, E.call f = some sp → Entered P f ∧ Pure tr P f sp
  ext : ∀ f X, E.ext f = some X → Entered P f ∧ ExtOk tr P f X ∧ ExtLocal X
  mapT : ∀ T k v, E.mapT T = some (k, v) → ∃ tk tv z, P.underlying T = some (.map tk tv) ∧ KeyOk P k tk ∧ TyOk P v tv ∧ ZeroIs P tv z ∧ ∀ w S, ∃ cs, Rep w S v v.dflt cs ∧ z = mkVal v cs

def Done (P : Program) (o : Oper) (a : Act) (w : World) (val : Value) (w' : World) : Prop :=
  (execOp a.eval o).run P w = .ok (.value val) w' ∨ ((execOp a.eval o).run P w = .ok .skip w' ∧ val = undef)

theorem Done.wp {P : Program} {o : Oper} {a : Act} {w w' : World} {val : Value} (h : Done P o a w val w') {K : Act → World → Prop} {Q : Exit → Act → World → Prop} (hK : K (a.put o.dst val) w') : o.wp P a w K Q := by
  unfold Oper.wp
  rcases h with h | ⟨h, rfl⟩
  · rw [h]; exact hK
  · rw [h]; exact hK

variable {P : Program} {E : Env} {w0 : Base} {w : World} {S0 : Nat → Prop} {hv : Hv} {s : St} {a : Act} {key : Nat} {o : Oper}

theorem Post.quiet (h : Rel w0 S0 hv s a w) {v : Slot} {val : Value} (hr : SlotRep w (All S0 hv s.st) hv v val) : Post w0 S0 hv s.st w key v s.st hv val w :=
  ⟨h.st, StepOk.refl _ _, Hv.le_refl _, fun _ _ => rfl, hr, h.base, h.keep, h.gh, fun _ _ => rfl⟩

/-- A new object behind rows that were frozen. -/
def Gh (w0 : Base) (hv : Hv) (st : Store) : Prop := ∀ k sl, st.get k = some (.ghost sl) → hv k = some w0.g
def Ob.plain : Ob → Bool
  | .ghost _ => false
  | _ => true
theorem Gh.put {st : Store} (h : Gh w0 hv st) (k key : Nat) (v : Value) {ob : Ob} (ho : ob.plain = true) : Gh w0 (hv.put key v) ((st.erase k).put key ob) := by
  intro j sl hj
  rw [get_put] at hj
  split at hj
  · injection hj with hj
    subst hj
    cases ho
  · rename_i hne
    rw [get_erase] at hj
    split at hj
    · cases hj
    · rw [Hv.put_ne hne]
      exact h j sl hj
theorem Gh.set {st : Store} (h : Gh w0 hv st) {k : Nat} {ob : Ob} (ho : ob.plain = true) : Gh w0 hv (st.put k ob) := by
  intro j sl hj
  rw [get_put] at hj
  split at hj
  · injection hj with hj
    subst hj
    cases ho
  · exact h j sl hj
theorem Gh.freezes {st : Store} (h : Gh w0 hv st) (l : List Nat) : Gh w0 hv (st.freezes l) := by
  intro j sl hj
  rcases get_freezes l st j with h' | ⟨e, xs, _, h2, _⟩
  · exact h j sl (h' ▸ hj)
  · rw [h2] at hj
    cases hj

theorem Post.lay (h : Rel w0 S0 hv s a w) {st1 : Store} (hg : Gh w0 hv st1) (h1 : StRel w S0 hv st1) (hsub : ∀ b, Own hv st1 b → Own hv s.st b) (hk : hv key = none) (k : Nat) (v : Value) (ob : Ob) (hpl : ob.plain = true) {w' : World} {sl : Slot} {val : Value}
    (hb : ∀ b, blk ob v = some b → w.heap.size ≤ b ∨ ∃ o1 v1, st1.get k = some o1 ∧ hv k = some v1 ∧ blk o1 v1 = some b)
    (hw : ∀ b, b < w.heap.size → blk ob v ≠ some b → w'.heap[b]? = w.heap[b]?)
    (hkeep : Below w0.tr w0.n w0.w w')
    (ho : StepOk w (All S0 hv st1) w' (All S0 (hv.put key v) ((st1.erase k).put key ob)) → ObRep w' (All S0 (hv.put key v) ((st1.erase k).put key ob)) (hv.put key v) v ob)
    (hr : SlotRep w' (All S0 (hv.put key v) ((st1.erase k).put key ob)) (hv.put key v) sl val) :
    Post w0 S0 hv s.st w key sl ((st1.erase k).put key ob) (hv.put key v) val w' := by
  obtain ⟨r1, r2, r3, r4⟩ := h1.lay hk k v ob (fun b hb => Nat.lt_of_lt_of_le (h.s0 b hb) h.keep.size) hb hw ho
  refine ⟨r1, ((StepOk.refl _ _).sub fun b hb => hb.imp id (hsub b)).trans r2, r3, fun j hj => ?_, hr, fun b hb => ?_, hkeep, hg.put _ _ _ hpl, fun b hb0 => ?_⟩
  · exact Hv.put_ne (by omega)
  · rcases r4 b hb with h' | h'
    · exact h.base b (hsub b h')
    · exact Nat.le_trans h.bn h'
  · have hlt := Nat.lt_of_lt_of_le (h.s0 b hb0) h.keep.size
    refine hw b hlt fun hbk => ?_
    rcases hb b hbk with h' | ⟨o1, v1, g1, g2, g3⟩
    · omega
    · exact h1.out b ⟨_, _, _, g1, g2, g3⟩ hb0

theorem erase_none {st : Store} {k : Nat} (h : st.get k = none) : st.erase k = st := by
  induction st with
  | nil => rfl
  | cons p r ih =>
    obtain ⟨j, ob⟩ := p
    simp only [Store.get] at h
    split at h
    · cases h
    · rename_i hne
      simp only [Store.erase, if_neg hne, ih h]
theorem StRel.fresh {st : Store} (h : StRel w S0 hv st) (hk : hv key = none) : st.get key = none := by
  cases hg : st.get key with
  | none => rfl
  | some ob =>
    obtain ⟨v, h1, _⟩ := h.objs _ _ hg
    rw [hk] at h1
    cases h1

theorem heap_push (w : World) (ob : Obj) : (w.alloc ob).heap[w.heap.size]? = some ob := by show (w.heap.push ob)[w.heap.size]? = some ob; simp
theorem heap_push_lt (w : World) (ob : Obj) {b : Nat} (h : b < w.heap.size) : (w.alloc ob).heap[b]? = w.heap[b]? := Below.heap_alloc w ob b h

/-- A new object in a new block. -/
theorem Post.alloc (h : Rel w0 S0 hv s a w) {st1 : Store} (hg : Gh w0 hv st1) (h1 : StRel w S0 hv st1) (hsub : ∀ b, Own hv st1 b → Own hv s.st b) (hk : hv key = none) (v : Value) (ob : Ob) (hpl : ob.plain = true) (cs : Array Value) (ty : TypeId) {sl : Slot} {val : Value}
    (hb : ∀ b, blk ob v = some b → w.heap.size ≤ b)
    (ho : StepOk w (All S0 hv st1) (w.alloc (.cells cs ty)) (All S0 (hv.put key v) (st1.put key ob)) → ObRep (w.alloc (.cells cs ty)) (All S0 (hv.put key v) (st1.put key ob)) (hv.put key v) v ob)
    (hr : SlotRep (w.alloc (.cells cs ty)) (All S0 (hv.put key v) (st1.put key ob)) (hv.put key v) sl val) :
    Post w0 S0 hv s.st w key sl (st1.put key ob) (hv.put key v) val (w.alloc (.cells cs ty)) := by
  have he := erase_none (h1.fresh hk)
  have := Post.lay (key := key) h hg h1 hsub hk key v ob hpl (w' := w.alloc (.cells cs ty)) (sl := sl) (val := val) (fun b e => .inl (hb b e)) (fun b hlt _ => heap_push_lt w _ hlt) (h.keep.alloc h.bn _)
  rw [he] at this
  exact this ho hr
end Go.Ev
