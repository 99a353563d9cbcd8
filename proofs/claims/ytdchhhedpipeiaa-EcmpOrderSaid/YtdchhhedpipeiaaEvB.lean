/- What plain data mean in memory, and what keeps it. -/
import Derived.Test.YtdchhhedpipeiaaEvA
import Derived.Below
import Derived.Deep.Draws
import Derived.Laws.Sem
import Derived.Laws.World
import Derived.Laws.Rows
import Derived.Laws.Cells
import Derived.Laws.IdiomCopy
set_option linter.unusedVariables false
set_option linter.unusedSimpArgs false
namespace Go.Ev
open Go.RowKit

/-! ### What stands below a block; (tr) no draw is taken back -/
structure Below (tr : Bool) (B : Nat) (w w' : World) : Prop where
  os : w'.os = w.os
  tape : w'.tape = w.tape
  output : w'.output = w.output
  size : w.heap.size ≤ w'.heap.size
  block : ∀ k, k < B → w'.heap[k]? = w.heap[k]?
  drawn : tr = true → w.drawn ≤ w'.drawn
theorem Below.refl (tr : Bool) (B : Nat) (w : World) : Below tr B w w := ⟨rfl, rfl, rfl, Nat.le_refl _, fun _ _ => rfl, fun _ => Nat.le_refl _⟩
theorem Below.trans {tr : Bool} {B : Nat} {a b c : World} (h : Below tr B a b) (k : Below tr B b c) : Below tr B a c :=
  ⟨k.os.trans h.os, k.tape.trans h.tape, k.output.trans h.output, Nat.le_trans h.size k.size, fun i hi => (k.block i hi).trans (h.block i hi), fun t => Nat.le_trans (h.drawn t) (k.drawn t)⟩
theorem Below.mono {tr : Bool} {B B' : Nat} {w w' : World} (h : Below tr B w w') (hB : B' ≤ B) : Below tr B' w w' := ⟨h.os, h.tape, h.output, h.size, fun k hk => h.block k (Nat.lt_of_lt_of_le hk hB), h.drawn⟩
theorem Below.drew {tr : Bool} {B : Nat} {a w : World} (h : Below tr B a w) : Below tr B a w.drew := ⟨h.os, h.tape, h.output, h.size, h.block, fun t => Nat.le_succ_of_le (h.drawn t)⟩
theorem Below.heap_alloc (w : World) (o : Obj) (k : Nat) (h : k < w.heap.size) : (w.alloc o).heap[k]? = w.heap[k]? := Go.RowKit.Below.heap_alloc w o k h
theorem Below.alloc {tr : Bool} {B : Nat} {a w : World} (h : Below tr B a w) (hB : B ≤ w.heap.size) (o : Obj) : Below tr B a (w.alloc o) :=
  h.trans ⟨rfl, rfl, rfl, by simp, fun k hk => Below.heap_alloc _ _ _ (by omega), fun _ => Nat.le_refl _⟩
theorem Below.base {tr : Bool} {B : Nat} {w w' : World} (h : Below tr B w w') : Go.RowKit.Below B w w' := ⟨h.os, h.tape, h.output, h.size, h.block⟩

/-! ### Two lists, alike at each place -/
def All2 {α β : Type} (R : α → β → Prop) : List α → List β → Prop
  | [], [] => True
  | a :: as, b :: bs => R a b ∧ All2 R as bs
  | _, _ => False

theorem All2.length {α β : Type} {R : α → β → Prop} : ∀ {l : List α} {m : List β}, All2 R l m → l.length = m.length
  | [], [], _ => rfl
  | _ :: _, _ :: _, h => by simp [All2.length h.2]
  | [], _ :: _, h => h.elim
  | _ :: _, [], h => h.elim
theorem All2.mono {α β : Type} {R R' : α → β → Prop} (hr : ∀ a b, R a b → R' a b) : ∀ {l : List α} {m : List β}, All2 R l m → All2 R' l m
  | [], [], _ => trivial
  | _ :: _, _ :: _, h => ⟨hr _ _ h.1, All2.mono hr h.2⟩
  | [], _ :: _, h => h.elim
  | _ :: _, [], h => h.elim
theorem All2.append {α β : Type} {R : α → β → Prop} {l' : List α} {m' : List β} : ∀ {l : List α} {m : List β}, All2 R l m → All2 R l' m' → All2 R (l ++ l') (m ++ m')
  | [], [], _, h' => h'
  | _ :: _, _ :: _, h, h' => ⟨h.1, All2.append h.2 h'⟩
  | [], _ :: _, h, _ => h.elim
  | _ :: _, [], h, _ => h.elim
theorem All2.get {α β : Type} {R : α → β → Prop} : ∀ {l : List α} {m : List β}, All2 R l m → ∀ (i : Nat) (a : α), l[i]? = some a → ∃ b, m[i]? = some b ∧ R a b
  | [], [], _, _, _, h => by simp at h
  | a :: _, b :: _, h, 0, x, hx => by
    simp at hx
    exact ⟨b, rfl, hx ▸ h.1⟩
  | _ :: _, _ :: _, h, i + 1, x, hx => by
    simp at hx
    obtain ⟨b, h1, h2⟩ := All2.get h.2 i x hx
    exact ⟨b, by simpa using h1, h2⟩
  | [], _ :: _, h, _, _, _ => h.elim
  | _ :: _, [], h, _, _, _ => h.elim
theorem All2.set {α β : Type} {R : α → β → Prop} {a : α} {b : β} (hab : R a b) : ∀ {l : List α} {m : List β}, All2 R l m → ∀ i : Nat, All2 R (l.set i a) (m.set i b)
  | [], [], _, _ => trivial
  | _ :: _, _ :: _, h, 0 => ⟨hab, h.2⟩
  | _ :: _, _ :: _, h, i + 1 => ⟨h.1, All2.set hab h.2 i⟩
  | [], _ :: _, h, _ => h.elim
  | _ :: _, [], h, _ => h.elim
theorem All2.take {α β : Type} {R : α → β → Prop} : ∀ {l : List α} {m : List β}, All2 R l m → ∀ i : Nat, All2 R (l.take i) (m.take i)
  | [], [], _, _ => by simp [All2]
  | _ :: _, _ :: _, h, 0 => by simp [All2]
  | _ :: _, _ :: _, h, i + 1 => ⟨h.1, All2.take h.2 i⟩
  | [], _ :: _, h, _ => h.elim
  | _ :: _, [], h, _ => h.elim
theorem All2.drop {α β : Type} {R : α → β → Prop} : ∀ {l : List α} {m : List β}, All2 R l m → ∀ i : Nat, All2 R (l.drop i) (m.drop i)
  | [], [], _, _ => by simp [All2]
  | _ :: _, _ :: _, h, 0 => h
  | _ :: _, _ :: _, h, i + 1 => All2.drop h.2 i
  | [], _ :: _, h, _ => h.elim
  | _ :: _, [], h, _ => h.elim
theorem All2.of_get {α β : Type} {R : α → β → Prop} : ∀ {l : List α} {m : List β}, l.length = m.length → (∀ (i : Nat) (a : α) (b : β), l[i]? = some a → m[i]? = some b → R a b) → All2 R l m
  | [], [], _, _ => trivial
  | a :: l, b :: m, h, H => ⟨H 0 a b rfl rfl, All2.of_get (by simpa using h) fun i x y hx hy => H (i + 1) x y (by simpa using hx) (by simpa using hy)⟩
  | [], _ :: _, h, _ => by simp at h
  | _ :: _, [], h, _ => by simp at h

/-! ### The world -/
def isCell : Value → Prop
  | .agg _ => False
  | .tuple _ => False
  | _ => True
theorem isCell.one {v : Value} (h : isCell v) : v.oneCell' = true := by cases v <;> first | rfl | exact h.elim
theorem isCell.cells {v : Value} (h : isCell v) : v.cells = #[v] := by cases v <;> first | rfl | exact h.elim

theorem add_none (b o n : Nat) : (⟨b, o, none⟩ : Addr).add n = ⟨b, o + n, none⟩ := by unfold Addr.add; split <;> simp_all
theorem cell_of {w : World} {b : Nat} {vs : Array Value} {ty : TypeId} {fr : Nat × Nat} (h : w.heap[b]? = some (.cells vs ty fr)) (o : Nat) : w.cell? ⟨b, o, none⟩ = vs[o]? := by simp [World.cell?, h]
theorem cell_lt {w : World} {b o : Nat} {v : Value} (h : w.cell? ⟨b, o, none⟩ = some v) : b < w.heap.size := by
  rcases Nat.lt_or_ge b w.heap.size with h' | h'
  · exact h'
  · simp [World.cell?, Array.getElem?_eq_none h'] at h

/-! ### Plain data in memory -/
def mkVal (t : Ty) (cs : List Value) : Value := if t.isAgg then .agg cs.toArray else cs.headD undef

/-- Plain data stand in these cells; what lies behind them lies in no block of S. -/
def Rep (w : World) (S : Nat → Prop) : (t : Ty) → t.den → List Value → Prop
  | .int k, n, cs => cs = [.int k n]
  | .bool, b, cs => cs = [.bool b]
  | .f64, n, cs => cs = [.float .f64 n]
  | .str, s, cs => cs = [.string s]
  | .unit, _, cs => cs = []
  | .one a, x, cs => Rep w S a x cs
  | .pair a b, x, cs => ∃ c1 c2, cs = c1 ++ c2 ∧ Rep w S a x.1 c1 ∧ Rep w S b x.2 c2
  | .sl e, xs, cs => ∃ A cap, cs = [.slice A (List.length (α := e.den) xs) cap] ∧ List.length (α := e.den) xs ≤ cap ∧
      ∀ (i : Nat) (x : e.den), (show List e.den from xs)[i]? = some x → ∃ b o es, A = some ⟨b, o, none⟩ ∧ Rep w S e x es ∧
        ∀ (j : Nat) (c : Value), es[j]? = some c → ¬ S b ∧ w.cell? ⟨b, o + i * e.size + j, none⟩ = some c

theorem Rep.length {w : World} {S : Nat → Prop} : ∀ {t : Ty} {x : t.den} {cs : List Value}, Rep w S t x cs → cs.length = t.size
  | .int _, _, _, h => by have h : _ = _ := h; subst h; rfl
  | .bool, _, _, h => by have h : _ = _ := h; subst h; rfl
  | .f64, _, _, h => by have h : _ = _ := h; subst h; rfl
  | .str, _, _, h => by have h : _ = _ := h; subst h; rfl
  | .unit, _, _, h => by have h : _ = _ := h; subst h; rfl
  | .one a, _, _, h => Rep.length (t := a) (show Rep w S a _ _ from h)
  | .pair _ _, _, _, h => by
    obtain ⟨c1, c2, rfl, h1, h2⟩ := h
    simp [Ty.size, Rep.length h1, Rep.length h2]
  | .sl _, _, _, h => by
    obtain ⟨A, cap, rfl, _⟩ := h
    rfl

theorem Rep.isCell {w : World} {S : Nat → Prop} : ∀ {t : Ty} {x : t.den} {cs : List Value}, Rep w S t x cs → ∀ c ∈ cs, Ev.isCell c
  | .int _, _, _, h => by have h : _ = _ := h; subst h; simp [Ev.isCell]
  | .bool, _, _, h => by have h : _ = _ := h; subst h; simp [Ev.isCell]
  | .f64, _, _, h => by have h : _ = _ := h; subst h; simp [Ev.isCell]
  | .str, _, _, h => by have h : _ = _ := h; subst h; simp [Ev.isCell]
  | .unit, _, _, h => by have h : _ = _ := h; subst h; simp
  | .one a, _, _, h => Rep.isCell (t := a) (show Rep w S a _ _ from h)
  | .pair _ _, _, _, h => by
    obtain ⟨c1, c2, rfl, h1, h2⟩ := h
    intro c hc
    rcases List.mem_append.1 hc with hc | hc
    · exact Rep.isCell h1 c hc
    · exact Rep.isCell h2 c hc
  | .sl _, _, _, h => by
    obtain ⟨A, cap, rfl, _⟩ := h
    simp [Ev.isCell]

/-- What stood in memory that is not to be written stands there still. -/
def StepOk (w : World) (S : Nat → Prop) (w' : World) (S' : Nat → Prop) : Prop :=
  ∀ b o v, ¬ S b → w.cell? ⟨b, o, none⟩ = some v → ¬ S' b ∧ w'.cell? ⟨b, o, none⟩ = some v
theorem StepOk.refl (w : World) (S : Nat → Prop) : StepOk w S w S := fun _ _ _ h h' => ⟨h, h'⟩
theorem StepOk.trans {w w' w'' : World} {S S' S'' : Nat → Prop} (h : StepOk w S w' S') (h' : StepOk w' S' w'' S'') : StepOk w S w'' S'' :=
  fun b o v hs hc => h' b o v (h b o v hs hc).1 (h b o v hs hc).2
theorem StepOk.sub {w w' : World} {S S' T : Nat → Prop} (h : StepOk w S w' S') (ht : ∀ b, T b → S' b) : StepOk w S w' T :=
  fun b o v hs hc => ⟨fun hb => (h b o v hs hc).1 (ht b hb), (h b o v hs hc).2⟩

theorem Rep.step {w w' : World} {S S' : Nat → Prop} (h : StepOk w S w' S') : ∀ {t : Ty} {x : t.den} {cs : List Value}, Rep w S t x cs → Rep w' S' t x cs
  | .int _, _, _, r => r
  | .bool, _, _, r => r
  | .f64, _, _, r => r
  | .str, _, _, r => r
  | .unit, _, _, r => r
  | .one a, _, _, r => Rep.step (t := a) h r
  | .pair _ _, _, _, r => by
    obtain ⟨c1, c2, e, h1, h2⟩ := r
    exact ⟨c1, c2, e, Rep.step h h1, Rep.step h h2⟩
  | .sl e, xs, _, r => by
    obtain ⟨A, cap, he, hc, H⟩ := r
    refine ⟨A, cap, he, hc, fun i x hx => ?_⟩
    obtain ⟨b, o, es, hA, hr, hcell⟩ := H i x hx
    exact ⟨b, o, es, hA, Rep.step h hr, fun j c hj => h _ _ _ (hcell j c hj).1 (hcell j c hj).2⟩

/-! ### What slots hold -/
abbrev Hv := Nat → Option Value

def AVRep (w : World) (S : Nat → Prop) (hv : Hv) : AV → Value → Prop
  | .pure t x, v => ∃ cs, Rep w S t x cs ∧ v = mkVal t cs
  | .nil, v => v = .slice none 0 0
  | .own k, v => hv k = some v ∧ isCell v
  | .view k sz lo n, v => ∃ A len cap A' cap', hv k = some (.slice A len cap) ∧ lo + n ≤ len ∧ len ≤ cap ∧ cap' = cap - lo ∧ (0 < n → ∃ b o, A = some ⟨b, o, none⟩) ∧
      (0 < cap' → ∀ b o, A = some ⟨b, o, none⟩ → A' = some ⟨b, o + lo * sz, none⟩) ∧ v = .slice A' n cap'
  | .ref k i sz off, v => (∃ b, hv k = some (.pointer (some ⟨b, 0, none⟩)) ∧ v = .pointer (some ⟨b, off, none⟩)) ∨
      (∃ b o len cap, hv k = some (.slice (some ⟨b, o, none⟩) len cap) ∧ i < len ∧ v = .pointer (some ⟨b, o + i * sz + off, none⟩))
  | .cptr t x off, v => ∃ b o cs, Rep w S t x cs ∧ (∀ (j : Nat) (c : Value), cs[j]? = some c → ¬ S b ∧ w.cell? ⟨b, o + j, none⟩ = some c) ∧ v = .pointer (some ⟨b, o + off, none⟩)
  | .fn f caps, v => ∃ l, All2 (fun k v => hv k = some v) caps l ∧ v = .func (.func f) #[] l.toArray
  | .nilp, v => v = .pointer none ∨ v = .nilFunc
  | .dead, _ => True

def CRep (w : World) (S : Nat → Prop) (hv : Hv) (a : AV) (v : Value) : Prop := AVRep w S hv a v ∧ isCell v

def SlotRep (w : World) (S : Nat → Prop) (hv : Hv) : Slot → Value → Prop
  | .one a, v => AVRep w S hv a v
  | .agg cs, v => ∃ vs : List Value, v = .agg vs.toArray ∧ All2 (CRep w S hv) cs vs
  | .tup l, v => ∃ vs : List Value, v = .tuple vs.toArray ∧ All2 (AVRep w S hv) l vs

def Hv.le (h h' : Hv) : Prop := ∀ k v, h k = some v → h' k = some v
theorem Hv.le_refl (h : Hv) : h.le h := fun _ _ e => e

theorem AVRep.step {w w' : World} {S S' : Nat → Prop} {hv hv' : Hv} (h : StepOk w S w' S') (hh : hv.le hv') {a : AV} {v : Value} (r : AVRep w S hv a v) : AVRep w' S' hv' a v := by
  cases a with
  | pure t x => obtain ⟨cs, hr, e⟩ := r; exact ⟨cs, hr.step h, e⟩
  | nil => exact r
  | own k => exact ⟨hh _ _ r.1, r.2⟩
  | view k sz lo n => obtain ⟨A, len, cap, A', cap', h1, h2⟩ := r; exact ⟨A, len, cap, A', cap', hh _ _ h1, h2⟩
  | ref k i sz off =>
    rcases r with ⟨b, h1, h2⟩ | ⟨b, o, len, cap, h1, h2⟩
    · exact .inl ⟨b, hh _ _ h1, h2⟩
    · exact .inr ⟨b, o, len, cap, hh _ _ h1, h2⟩
  | cptr t x off =>
    obtain ⟨b, o, cs, hr, hc, e⟩ := r
    exact ⟨b, o, cs, hr.step h, fun j c hj => h _ _ _ (hc j c hj).1 (hc j c hj).2, e⟩
  | fn f caps => obtain ⟨l, hl, e⟩ := r; exact ⟨l, hl.mono fun k v => hh k v, e⟩
  | nilp => exact r
  | dead => trivial

theorem CRep.step {w w' : World} {S S' : Nat → Prop} {hv hv' : Hv} (h : StepOk w S w' S') (hh : hv.le hv') {a : AV} {v : Value} (r : CRep w S hv a v) : CRep w' S' hv' a v := ⟨r.1.step h hh, r.2⟩
theorem SlotRep.step {w w' : World} {S S' : Nat → Prop} {hv hv' : Hv} (h : StepOk w S w' S') (hh : hv.le hv') {a : Slot} {v : Value} (r : SlotRep w S hv a v) : SlotRep w' S' hv' a v := by
  cases a with
  | one a => exact AVRep.step h hh r
  | agg cs => obtain ⟨vs, e, hr⟩ := r; exact ⟨vs, e, hr.mono fun _ _ => CRep.step h hh⟩
  | tup cs => obtain ⟨vs, e, hr⟩ := r; exact ⟨vs, e, hr.mono fun _ _ => AVRep.step h hh⟩

/-! ### Objects -/
/-- The elements of a row stand in these cells. -/
def RowIn (w : World) (S : Nat → Prop) (e : Ty) (xs : List e.den) (vs : Array Value) (o : Nat) : Prop :=
  ∀ (i : Nat) (x : e.den), xs[i]? = some x → ∃ es, Rep w S e x es ∧ ∀ (j : Nat) (c : Value), es[j]? = some c → vs[o + i * e.size + j]? = some c

/-- A map's entries. -/
def MapIn (w : World) (S : Nat → Prop) (k v : Ty) (l : List (Nat × (Ty.pair k v).den)) (es : List MapEntry) : Prop :=
  All2 (fun (p : Nat × (Ty.pair k v).den) (e : MapEntry) => e.born = p.1 ∧ (∃ ck, Rep w S k p.2.1 ck ∧ e.key = mkVal k ck) ∧ ∃ cv, Rep w S v p.2.2 cv ∧ e.val = mkVal v cv) l es

def ObRep (w : World) (S : Nat → Prop) (hv : Hv) (v : Value) : Ob → Prop
  | .cells cs => ∃ b vs ty, v = .pointer (some ⟨b, 0, none⟩) ∧ w.heap[b]? = some (.cells vs ty (0, 0)) ∧ All2 (CRep w S hv) cs vs.toList
  | .row e xs => (∃ A, v = .slice A 0 0 ∧ xs = []) ∨ ∃ b o cap vs ty, v = .slice (some ⟨b, o, none⟩) xs.length cap ∧ 0 < cap ∧ xs.length ≤ cap ∧
      w.heap[b]? = some (.cells vs ty (0, 0)) ∧ o + cap * e.size ≤ vs.size ∧ RowIn w S e xs vs o
  | .frow e xs => Rep w S (.sl e) xs [v]
  | .ghost sl => ∃ vs : List Value, v = .tuple vs.toArray ∧ All2 (SlotRep w S hv) sl vs
  | .map kt vt l c => ∃ b es, v = .map (some b) ∧ w.heap[b]? = some (.map es c) ∧ MapIn w S kt vt l es.toList

/-- The block that an object owns. -/
def blk : Ob → Value → Option Nat
  | .cells _, .pointer (some a) => some a.block
  | .row _ _, .slice (some a) _ cap => if 0 < cap then some a.block else none
  | .map _ _ _ _, .map (some b) => some b
  | _, _ => none

def Own (hv : Hv) (st : Store) (b : Nat) : Prop := ∃ k o v, st.get k = some o ∧ hv k = some v ∧ blk o v = some b
def All (S0 : Nat → Prop) (hv : Hv) (st : Store) (b : Nat) : Prop := S0 b ∨ Own hv st b

structure StRel (w : World) (S0 : Nat → Prop) (hv : Hv) (st : Store) : Prop where
  objs : ∀ k o, st.get k = some o → ∃ v, hv k = some v ∧ ObRep w (All S0 hv st) hv v o
  inj : ∀ k o v k' o' v' b, st.get k = some o → hv k = some v → blk o v = some b → st.get k' = some o' → hv k' = some v' → blk o' v' = some b → k = k'
  out : ∀ b, Own hv st b → ¬ S0 b

/-- Where an evaluation began: the world, and how much of it nobody writes. -/
structure Base where
  w : World
  n : Nat
  le : n ≤ w.heap.size
  /-- What is kept in mind. -/
  g : Value
  /-- Are draws kept count of? -/
  tr : Bool
  /-- The blocks that were its own. -/
  S : Nat → Prop
def Base.of (tr : Bool) (w : World) (S : Nat → Prop) : Base := ⟨w, w.heap.size, Nat.le_refl _, undef, tr, S⟩

structure Rel (w0 : Base) (S0 : Nat → Prop) (hv : Hv) (s : St) (a : Act) (w : World) : Prop where
  st : StRel w S0 hv s.st
  tmps : All2 (SlotRep w (All S0 hv s.st) hv) s.tmps a.tmps.toList
  base : ∀ b, Own hv s.st b → w0.n ≤ b
  s0 : ∀ b, S0 b → b < w0.w.heap.size
  keep : Below w0.tr w0.n w0.w w
  dfr : a.defers = []
  gh : ∀ k sl, s.st.get k = some (.ghost sl) → hv k = some w0.g
  stp : StepOk w0.w w0.S w (All S0 hv s.st)
  kp : ∀ b, S0 b → w.heap[b]? = w0.w.heap[b]?

theorem Rel.bn {w0 : Base} {S0 : Nat → Prop} {hv : Hv} {s : St} {a : Act} {w : World} (h : Rel w0 S0 hv s a w) : w0.n ≤ w.heap.size := Nat.le_trans w0.le h.keep.size

/-! ### Stores -/
theorem get_put (st : Store) (k : Nat) (o : Ob) (j : Nat) : (st.put k o).get j = if j = k then some o else st.get j := by
  induction st with
  | nil =>
    simp only [Store.put, Store.get]
    by_cases h : k = j
    · simp [h]
    · simp [h, Ne.symm h]
  | cons p r ih =>
    obtain ⟨i, o'⟩ := p
    simp only [Store.put]
    by_cases h : i = k
    · subst h
      simp only [if_true, Store.get]
      by_cases h' : i = j
      · subst h'; simp
      · simp [h', Ne.symm h']
    · simp only [h, if_false, Store.get, ih]
      by_cases h' : i = j
      · subst h'; simp [h]
      · simp [h']
theorem get_erase (st : Store) (k : Nat) (j : Nat) : (st.erase k).get j = if j = k then none else st.get j := by
  induction st with
  | nil => simp [Store.erase, Store.get]
  | cons p r ih =>
    obtain ⟨i, o'⟩ := p
    simp only [Store.erase]
    by_cases h : i = k
    · subst h
      simp only [if_true, Store.get, ih]
      by_cases h' : i = j
      · subst h'; simp
      · simp [h', Ne.symm h']
    · simp only [h, if_false, Store.get, ih]
      by_cases h' : i = j
      · subst h'; simp [h]
      · simp [h']
end Go.Ev
