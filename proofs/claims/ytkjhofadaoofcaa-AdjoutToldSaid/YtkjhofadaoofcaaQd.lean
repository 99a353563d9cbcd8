/- Contracts and laws that the claim needs, packed from several texts. -/
import Derived.LoopIn
import Derived.LoopNIn
import Derived.Maps.AppendAt
import Derived.Maps.RangeWalk
import Derived.OwnWalkIn
import Derived.RangeFuncNested
import Derived.RegionIn
import Derived.Shelf.AbstractIn
import Derived.Sort.MapsRangeIn
import Derived.TacticsInMore
import Derived.WalkKit
import Derived.Test.YtkjhofadaoofcaaQc
section
set_option linter.unusedVariables false
set_option linter.unusedSimpArgs false
set_option linter.unusedVariables false
namespace Go.Ev
open Go.RowKit Go.Shelf Go.Proofs
variable {P : Program}
def Keep2 (n : Nat) (A B : World) : Prop := KeepsWalks A B ∧ RowKit.Below n A B
theorem Keep2.trans {n : Nat} {A B C : World} (h : Keep2 n A B) (k : Keep2 n B C) : Keep2 n A C := ⟨h.1.trans k.1, h.2.trans k.2⟩
theorem Keep2.book {n : Nat} {w : World} (hn : n ≤ w.heap.size) (W : World) (l : Nat) (o o' : Obj) (hl : w.heap.size ≤ l) (h : W.heap[l]? = some o) (h1 : o.isCells = false) (h2 : o.isWalk = false) : Keep2 n W (W.putObj l o') :=
  ⟨walksK_b W l o o' hl h h1 h2, belowK_b hn W l o o' hl h h1 h2⟩
def apAssign1 (tE : TypeId) : Code := .region 2 #[{ dst := some 5, op := .assign (.tmp 7), type := tE, pos := "iter.go:51", after := #[], guard := none }] false
def apBody1 (tS tE t0 : TypeId) : Code := .block 1 (.region 3 #[{ dst := some 8, op := .load tS (.tmp 2), type := tS, pos := "iter.go:52", after := #[], guard := none }, { dst := some 9, op := .move (.tmp 5), type := tE, pos := "iter.go:52", after := #[], guard := none },
  { dst := some 10, op := .buildSlice tS 1 #[(0, .tmp 9)], type := tS, pos := "iter.go:52", after := #[{ on := 1, ground := .data }], guard := none },
  { dst := some 11, op := .call { callee := .builtin .append, args := #[.tmp 8, .tmp 10], argTypes := #[tS, tS] }, type := tS, pos := "iter.go:52", after := #[{ on := 0, ground := .data }, { on := 2, ground := .data }], guard := none },
  { dst := none, op := .store tS (.tmp 2) (.tmp 11), type := t0, pos := "iter.go:52", after := #[{ on := 3, ground := .data }, { on := 3, ground := .chain }, { on := 0, ground := .phase }, { on := 1, ground := .phase }, { on := 2, ground := .phase }, { on := 3, ground := .phase }], guard := none }] false)
def apCode1 (tS tE tQ t0 : TypeId) : Code := (Code.region 0 #[{ dst := some 2, op := .box tS (.tmp 0), type := t0, pos := "iter.go:50", after := #[], guard := none }, { dst := some 4, op := .assign (.const (.slice none 0 0)), type := tS, pos := "iter.go:50", after := #[], guard := none }] false).seq
  (((Code.region 1 #[{ dst := some 6, op := .move (.tmp 1), type := tQ, pos := "iter.go:51", after := #[], guard := none }] false).seq (Code.block 0 (.rangeFunc (.tmp 6) #[7] (apAssign1 tE) (apBody1 tS tE t0)))).seq
  ((Code.region 4 #[{ dst := some 12, op := .load tS (.tmp 2), type := tS, pos := "iter.go:54", after := #[], guard := none }, { dst := some 4, op := .assign (.tmp 12), type := tS, pos := "iter.go:54", after := #[{ on := 0, ground := .data }, { on := 0, ground := .phase }], guard := none }] false).seq .ret))
structure ApTy (P : Program) (tS tE t0 : TypeId) (k by_ : Nat) (z : Value) (ag : Bool) : Prop where
  mixed : P.follows .mixedOrders = true
  u0 : P.underlying t0 = some (.tuple #[])
  a0 : ∀ w, (isAgg t0).run P w = .ok false w
  z0 : ∀ w, (Go.sizeOf t0).run P w = .ok 1 w
  uS : P.underlying tS = some (.slice tE)
  aS : ∀ w, (isAgg tS).run P w = .ok false w
  zS : ∀ w, (Go.sizeOf tS).run P w = .ok 1 w
  vS : ∀ w, (zeroValue tS).run P w = .ok (.slice none 0 0) w
  aE : ∀ w, (isAgg tE).run P w = .ok ag w
  zE : ∀ w, (Go.sizeOf tE).run P w = .ok k w
  vE : ∀ w, (zeroValue tE).run P w = .ok z w
  iE : (P.info? tE).map (fun i => (i.zero, i.size, i.bytes)) = some (some z, k, by_)
  zc : z.cells.size = k
  k0 : 0 < k
  ne : tS ≠ tE
def elVal (agg : Bool) (cs : List Value) : Value := if agg then .agg cs.toArray else cs.headD undef
def ApI (n0 : Nat) (w0 : World) (Bs : Nat) (tS tE : TypeId) (k : Nat) {α : Type} (enc : α → List Value) (xs : List α) (W : World) : Prop :=
  (∃ v, Boxed W Bs tS v ∧ W.ownsRow n0 tE k v xs.length (xs.flatMap enc) ∧ True) ∧ RowKit.Below n0 w0 W
theorem apI_own {n0 Bs B : Nat} {w0 : World} {tS tE : TypeId} {k : Nat} {α : Type} {enc : α → List Value} (hB : n0 ≤ B) (hw : n0 ≤ w0.heap.size) : OwnFrom B (ApI n0 w0 Bs tS tE k enc) := fun s W W' row hs hg hr =>
  ⟨(holdsRow_own n0 Bs tS tE k (fun xs : List α => xs.length) (fun xs => xs.flatMap enc) (fun _ _ => True)) s W W' row hs.1 hg (fun r e => (hr r e).2),
   hs.2.grown hg (Nat.le_trans hw hs.2.size) fun j e => Nat.le_trans hB (hr j e).1⟩
end Go.Ev
end
section
set_option linter.unusedVariables false
set_option linter.unusedSimpArgs false
set_option linter.unusedVariables false
namespace Go.Ev
open Go.RowKit Go.Shelf Go.Proofs
variable {P : Program}
set_option maxRecDepth 100000 in
set_option maxHeartbeats 2000000 in
theorem append1 {tS tE t0 tQ : TypeId} {by_ : Nat} {kd : IntKind} (T : ApTy P tS tE t0 1 by_ (.int kd 0) false) {f : FuncId} {fn : Func} (hf : P.funcs[f]? = some fn) (hb : fn.body = some (apCode1 tS tE tQ t0)) (hn : fn.ntmps = 13) (hres : fn.results = #[.tmp 4])
    {g : FuncId} {lb : Array Value} (eg : Entered P g) {S Sp : List Int → Prop} {N : Nat} (hN : N ≤ maxLen) (hNb : N * by_ ≤ 140737488355328) {w : World}
    (hseq : SeqStopsK Fence.wide 5 P g lb (fun x : Int => #[Value.int kd x]) (Keep2 w.heap.size) S Sp N w) :
    Calls P f #[.slice none 0 0, .func (.func g) #[] lb] w fun e w' => ∃ (v : Value) (xs : List Int), e = .returned v ∧ S xs ∧ w'.ownsRow w.heap.size tE 1 v xs.length (xs.flatMap fun x : Int => [Value.int kd x]) ∧ RowKit.Below w.heap.size w w' := by
  have mixed := T.mixed; have u0 := T.u0; have a0 := T.a0; have z0 := T.z0; have uS := T.uS; have aS := T.aS; have zS := T.zS; have vS := T.vS; have aE := T.aE; have zE := T.zE; have vE := T.vE
  have r0 := fun w => run_underlying (w := w) T.u0; have rS := fun w => run_underlying (w := w) T.uS
  have eg' : ∀ args w, (callFunc g args).run P w = .ok (.enter g args) w := eg
  obtain ⟨i0, hi, hz0, hz1, hz2⟩ := info_parts T.iE
  refine (callsIn_wide (n := 6)).1 ?_
  refine callsIn_of_wp_marks hf hb trivial ?_ rfl
  simp only [hn, List.size_toArray, List.length_cons, List.length_nil, Nat.reduceAdd, Nat.reduceSub, Array.replicate_succ, Array.replicate_zero, List.push_toArray, List.append_toArray, List.nil_append, List.cons_append]
  unfold apCode1
  gi_wp2
  have hB1 : RowKit.Below w.heap.size w (w.alloc (.cells #[.slice none 0 0] tS)) := (RowKit.Below.refl _ w).alloc (Nat.le_refl _) _
  have hws : w.heap.size ≤ (w.alloc (.cells #[.slice none 0 0] tS)).heap.size := by simp
  refine wpIn_rangeFunc_ownH rfl (by omega) (gf := g) (lb := lb) rfl trivial eg' hseq (fun h k => h.trans k) (fun W l o o' hl h h1 h2 => Keep2.book hws W l o o' hl h h1 h2) hB1 (fun _ => rfl)
    (ApI w.heap.size w w.heap.size tS tE 1 (fun x : Int => [Value.int kd x])) (fun _ _ _ => False) (apI_own hws (Nat.le_refl _)) (fun _ _ _ _ _ hs _ _ => hs)
    ⟨⟨_, Boxed.new _ _ _, ⟨rfl, .inl ⟨rfl, rfl⟩⟩, trivial⟩, hB1⟩
    (fun (x : Int) a' W => a' = { tmps := #[.slice none 0 0, .func (.func g) #[] lb, .pointer (some ⟨w.heap.size, 0, none⟩), undef, .slice none 0 0, .int kd x, .func (.func g) #[] lb, Value.int kd x, undef, undef, undef, undef, undef], defers := [] })
    (fun x a' _ _ _ _ h _ _ => h) ?assign ?body ?done ?stop
  case assign =>
    intro l pre x W K hI hK
    unfold apAssign1
    gi_wp2_with (rw [Oper.semAt_eq _ _ _ (fun c h => by cases h)]; go_simp; try go_bits)
    exact hK _ _ (KeepsFrom.refl _ _) ⟨KeepsWalks.refl _, RowKit.Below.refl _ _⟩ hI rfl
  case body =>
    rintro l pre x a' W hl _ ⟨⟨v, hv, hrow, _⟩, hbel⟩ rfl hlen
    have hc := hv.cell
    have hfz := hv.frozen
    have hsz := hbel.size
    unfold apBody1
    have hb1 : pre.length + 1 ≤ maxLen := Nat.le_trans hlen hN
    have hb2 : (pre.length + 1) * by_ ≤ 140737488355328 := Nat.le_trans (Nat.mul_le_mul_right by_ hlen) hNb
    have hb3 : w.heap.size ≤ (W.alloc (.cells #[.int kd x] tE)).heap.size := by rw [World.size_alloc]; omega
    gi_wp2_with (first
      | (gi_at_builtin; refine wpListIn_append_own _ rfl _ _ tS rfl w.heap.size tE i0 (.int kd 0) 1 by_ T.uS hi hz0 hz1 hz2 T.zc (by decide) _ _ _ rfl (hrow.alloc _) ⟨W.heap.size, 0, none⟩ 1 1 [Value.int kd x] rfl rfl (cell_one_new _ _ _) (by simp [Value.oneCell']) hb1 hb2 hb3 ?_; intro v' w3 hown' hg3 hnil3
         have hg3 : (W.alloc (.cells #[.int kd x] tE)).grownBy w3 v.ownBlock := hg3
         obtain ⟨q1, q2, q3, q4, q5⟩ := hv.appended T.ne hrow hsz (Nat.le_refl _) hown' hg3
         obtain ⟨g', cap', rfl⟩ := ownsRow_succ hown'
         have hc3 := q1.cell
         have hf3 := q1.frozen
         clear hnil3
         go_frame)
      | (rw [Oper.semAt_eq _ _ _ (fun c h => by cases h)]; go_simp; try go_bits))
    exact ⟨q4.from _, ⟨q4.walks, q5⟩, ⟨_, q2, by simpa using q3, trivial⟩, hbel.trans q5⟩
  case done =>
    rintro D xs W hD hS ⟨⟨v, hv, hrow, _⟩, hbel⟩ hK
    have hc := hv.cell
    have hfz := hv.frozen
    gi_wp2
    refine ⟨by simp, .inl ⟨_, _, rfl, run_takeDeferred hK, ?_⟩⟩
    exact ⟨_, results_tmp hres _ _ _, v, xs, rfl, hS, ownsRow_putObj hrow _ hK rfl, hbel.grown (grownBy_putObj' _ _ _) hbel.size (fun j e => by cases e; exact Nat.le_trans hws hD)⟩
  case stop =>
    rintro D c pre W _ _ h _
    exact h.elim
def vaCode1 (tS tE tI tB tY t0 : TypeId) : Code := (Code.region 0 #[{ dst := some 5, op := .load tS (.tmp 1), type := tS, pos := "iter.go:39", after := #[], guard := none }, { dst := some 6, op := .call { callee := .builtin .len, args := #[.tmp 5], argTypes := #[tS] }, type := tI, pos := "iter.go:39", after := #[{ on := 0, ground := .data }], guard := none }, { dst := some 7, op := .move (.const (.int .i64 0)), type := tI, pos := "iter.go:39", after := #[], guard := none }] false).seq
  (Code.block 0 ((Code.region 1 #[{ dst := some 8, op := .binOp .lss tI (.tmp 7) (.tmp 6) tI, type := t0, pos := "iter.go:39", after := #[], guard := none }] false).seq ((Code.cond (.tmp 8) .skip (.exit 0)).seq
  ((Code.block 1 ((Code.region 2 #[{ dst := some 9, op := .indexAddr tS (.tmp 5) (.tmp 7), type := t0, pos := "iter.go:39", after := #[], guard := none }, { dst := some 10, op := .load tE (.tmp 9), type := tE, pos := "iter.go:39", after := #[{ on := 0, ground := .data }], guard := none }, { dst := some 4, op := .assign (.tmp 10), type := tE, pos := "iter.go:39", after := #[{ on := 1, ground := .data }, { on := 0, ground := .phase }, { on := 1, ground := .phase }], guard := none }] false).seq
    ((Code.region 3 #[{ dst := some 11, op := .move (.tmp 0), type := tY, pos := "iter.go:40", after := #[], guard := none }, { dst := some 12, op := .move (.tmp 4), type := tE, pos := "iter.go:40", after := #[], guard := none }, { dst := some 13, op := .call { callee := .value (.tmp 11), args := #[.tmp 12], argTypes := #[tE] }, type := tB, pos := "iter.go:40", after := #[{ on := 0, ground := .data }, { on := 1, ground := .data }], guard := none }, { dst := some 14, op := .unOp .not tB (.tmp 13), type := tB, pos := "iter.go:40", after := #[{ on := 2, ground := .data }], guard := none }] false).seq
    (Code.cond (.tmp 14) .ret .skip)))).seq
  (Code.region 4 #[{ dst := some 15, op := .binOp .add tI (.tmp 7) (.const (.int .i64 1)) tI, type := tI, pos := "iter.go:39", after := #[], guard := none }, { dst := some 7, op := .move (.tmp 15), type := tI, pos := "iter.go:39", after := #[{ on := 0, ground := .data }], guard := none }] false)))).loop)
structure VaTy (P : Program) (tS tE tI tB tY t0 : TypeId) (ag : Bool) (k : Nat) : Prop where
  mixed : P.follows .mixedOrders = true
  u0 : P.underlying t0 = some (.tuple #[])
  a0 : ∀ w, (isAgg t0).run P w = .ok false w
  z0 : ∀ w, (Go.sizeOf t0).run P w = .ok 1 w
  uS : P.underlying tS = some (.slice tE)
  aS : ∀ w, (isAgg tS).run P w = .ok false w
  zS : ∀ w, (Go.sizeOf tS).run P w = .ok 1 w
  aE : ∀ w, (isAgg tE).run P w = .ok ag w
  zE : ∀ w, (Go.sizeOf tE).run P w = .ok k w
  uI : P.underlying tI = some (.int .i64)
  aI : ∀ w, (isAgg tI).run P w = .ok false w
  zI : ∀ w, (Go.sizeOf tI).run P w = .ok 1 w
  uB : P.underlying tB = some .bool
  aB : ∀ w, (isAgg tB).run P w = .ok false w
  zB : ∀ w, (Go.sizeOf tB).run P w = .ok 1 w
  aY : ∀ w, (isAgg tY).run P w = .ok false w
  zY : ∀ w, (Go.sizeOf tY).run P w = .ok 1 w
set_option maxRecDepth 100000 in
set_option maxHeartbeats 2000000 in
theorem values1 {tS tE tI tB tY t0 : TypeId} (T : VaTy P tS tE tI tB tY t0 false 1) {f : FuncId} {fn : Func} (hf : P.funcs[f]? = some fn) (hb : fn.body = some (vaCode1 tS tE tI tB tY t0)) (hn : fn.ntmps = 16) (hres : fn.results = #[])
    {kd : IntKind} {xs : List Int} {A : Option Addr} {cap Bm : Nat} {w : World} (hlen : xs.length < 4611686018427387904) (hBm : w.cell? ⟨Bm, 0, none⟩ = some (.slice A xs.length cap))
    (hel : ∀ (i : Nat) (x : Int), xs[i]? = some x → ∃ b o, A = some ⟨b, o, none⟩ ∧ w.cell? ⟨b, o + i, none⟩ = some (.int kd x)) :
    SeqStopsK Fence.wide 5 P f #[.pointer (some ⟨Bm, 0, none⟩)] (fun x : Int => #[Value.int kd x]) (Keep2 w.heap.size) (fun ys => ys = xs) (fun _ => True) xs.length w := fun l J Jx W hW hJ hJx hY h0 => by
  have mixed := T.mixed; have u0 := T.u0; have a0 := T.a0; have z0 := T.z0; have uS := T.uS; have aS := T.aS; have zS := T.zS; have aE := T.aE; have zE := T.zE; have uI := T.uI; have aI := T.aI; have zI := T.zI; have uB := T.uB; have aB := T.aB; have zB := T.zB; have aY := T.aY; have zY := T.zY
  have r0 := fun w => run_underlying (w := w) T.u0; have rS := fun w => run_underlying (w := w) T.uS; have rI := fun w => run_underlying (w := w) T.uI; have rB := fun w => run_underlying (w := w) T.uB
  have hcW : W.cell? ⟨Bm, 0, none⟩ = some (.slice A xs.length cap) := (hW.cell (p := ⟨Bm, 0, none⟩) (cell_lt hBm)).trans hBm
  refine callsIn_of_wp hf hb trivial ?_ rfl
  simp only [hn, List.size_toArray, List.length_cons, List.length_nil, Nat.reduceAdd, Nat.reduceSub, Array.replicate_succ, Array.replicate_zero, List.push_toArray, List.append_toArray, List.nil_append, List.cons_append]
  unfold vaCode1
  gi_wp2
  gi_loopw [7] (fun vi wr => ∃ i : Nat, vi = .int .i64 i ∧ i ≤ xs.length ∧ J (xs.take i) wr ∧ RowKit.Below w.heap.size w wr) (fun vi _ => xs.length - (intOf vi).toNat)
  case atStart =>
    exact ⟨0, rfl, Nat.zero_le _, by simpa using h0, hW⟩
  case round =>
    obtain ⟨i, rfl, hi, hJi, hbel⟩ := hrel
    clear hcW
    by_cases hlt : i < xs.length
    · obtain ⟨b, o, rfl, hcell⟩ := hel i xs[i] (List.getElem?_eq_getElem hlt)
      have hcell' : wr.cell? ⟨b, o + i, none⟩ = some (.int kd xs[i]) := (hbel.cell (p := ⟨b, o + i, none⟩) (cell_lt hcell)).trans hcell
      obtain ⟨fn2, tmps, assign, body, hy, hR⟩ := hY (xs.take i) xs[i] wr hJi (by rw [List.length_take]; omega)
      gi_wp2
      refine hR.mono ?_
      rintro e W3 (⟨rfl, hJ3, hk3⟩ | ⟨rfl, hx3⟩)
      · gi_wp2
        have wi : IntKind.i64.wrap ((i : Int) + 1) = ((i + 1 : Nat) : Int) := by simp [IntKind.wrap, IntKind.bits, IntKind.signed]; omega
        go_roundw
        case rel =>
          refine ⟨i + 1, by simp, hlt, ?_, hbel.trans hk3.2⟩
          rw [List.take_add_one, List.getElem?_eq_getElem hlt]
          exact hJ3
        case measure =>
          simp only [intOf]
          omega
      · gi_wp2
        exact bodyPost_ret (results_none hres _ _ _) rfl ⟨⟨_, rfl⟩, .inr ⟨_, trivial, hx3⟩⟩
    · have : i = xs.length := by omega
      subst this
      gi_wp2
      exact bodyPost_end (results_none hres _ _ _) rfl ⟨⟨_, rfl⟩, .inl ⟨_, rfl, by rwa [List.take_of_length_le (Nat.le_refl _)] at hJi⟩⟩
end Go.Ev
end
section
set_option linter.unusedVariables false
set_option linter.unusedSimpArgs false
set_option linter.unusedVariables false
namespace Go.Ev
open Go.RowKit Go.Shelf Go.Proofs
variable {P : Program}
def apAssign2 (tE t0 : TypeId) : Code := .region 2 #[{ dst := some 5, op := .alloc tE, type := t0, pos := "iter.go:51", after := #[], guard := none }, { dst := none, op := .store tE (.tmp 5) (.tmp 7), type := t0, pos := "iter.go:51", after := #[{ on := 0, ground := .data }, { on := 0, ground := .phase }], guard := none }] false
def apBody2 (tS tE t0 : TypeId) : Code := .block 1 (.region 3 #[{ dst := some 8, op := .load tS (.tmp 2), type := tS, pos := "iter.go:52", after := #[], guard := none }, { dst := some 9, op := .load tE (.tmp 5), type := tE, pos := "iter.go:52", after := #[], guard := none },
  { dst := some 10, op := .buildSlice tS 1 #[(0, .tmp 9)], type := tS, pos := "iter.go:52", after := #[{ on := 1, ground := .data }], guard := none },
  { dst := some 11, op := .call { callee := .builtin .append, args := #[.tmp 8, .tmp 10], argTypes := #[tS, tS] }, type := tS, pos := "iter.go:52", after := #[{ on := 0, ground := .data }, { on := 2, ground := .data }], guard := none },
  { dst := none, op := .store tS (.tmp 2) (.tmp 11), type := t0, pos := "iter.go:52", after := #[{ on := 3, ground := .data }, { on := 3, ground := .chain }, { on := 0, ground := .phase }, { on := 1, ground := .phase }, { on := 2, ground := .phase }, { on := 3, ground := .phase }], guard := none }] false)
def apCode2 (tS tE tQ t0 : TypeId) : Code := (Code.region 0 #[{ dst := some 2, op := .box tS (.tmp 0), type := t0, pos := "iter.go:50", after := #[], guard := none }, { dst := some 4, op := .assign (.const (.slice none 0 0)), type := tS, pos := "iter.go:50", after := #[], guard := none }] false).seq
  (((Code.region 1 #[{ dst := some 6, op := .move (.tmp 1), type := tQ, pos := "iter.go:51", after := #[], guard := none }] false).seq (Code.block 0 (.rangeFunc (.tmp 6) #[7] (apAssign2 tE t0) (apBody2 tS tE t0)))).seq
  ((Code.region 4 #[{ dst := some 12, op := .load tS (.tmp 2), type := tS, pos := "iter.go:54", after := #[], guard := none }, { dst := some 4, op := .assign (.tmp 12), type := tS, pos := "iter.go:54", after := #[{ on := 0, ground := .data }, { on := 0, ground := .phase }], guard := none }] false).seq .ret))
theorem cells_new (w : World) (vs : List Value) (t : TypeId) : ∀ j u, vs[j]? = some u → (w.alloc (.cells vs.toArray t)).cell? ((⟨w.heap.size, 0, none⟩ : Addr).add j) = some u := by
  intro j u h
  have hb : (w.alloc (.cells vs.toArray t)).heap[w.heap.size]? = some (.cells vs.toArray t (0, 0)) := heap_push _ _
  match j, h with
  | 0, h => rw [show ((⟨w.heap.size, 0, none⟩ : Addr).add 0) = ⟨w.heap.size, 0, none⟩ by simp [Addr.add], cell_of hb, List.getElem?_toArray]; exact h
  | j + 1, h => rw [show ((⟨w.heap.size, 0, none⟩ : Addr).add (j + 1)) = ⟨w.heap.size, j + 1, none⟩ by simp [Addr.add], cell_of hb, List.getElem?_toArray]; exact h
set_option maxRecDepth 100000 in
set_option maxHeartbeats 2000000 in
theorem append2 {tS tE t0 tQ : TypeId} {by_ : Nat} {ka kb : IntKind} (T : ApTy P tS tE t0 2 by_ (.agg #[.int ka 0, .int kb 0]) true) {f : FuncId} {fn : Func} (hf : P.funcs[f]? = some fn) (hb : fn.body = some (apCode2 tS tE tQ t0)) (hn : fn.ntmps = 13) (hres : fn.results = #[.tmp 4])
    {g : FuncId} {lb : Array Value} (eg : Entered P g) {S Sp : List (Int × Int) → Prop} {N : Nat} (hN : N ≤ maxLen) (hNb : N * by_ ≤ 140737488355328) {w : World}
    (hseq : SeqStopsK Fence.wide 5 P g lb (fun x : Int × Int => #[Value.agg #[.int ka x.1, .int kb x.2]]) (Keep2 w.heap.size) S Sp N w) :
    Calls P f #[.slice none 0 0, .func (.func g) #[] lb] w fun e w' => ∃ (v : Value) (xs : List (Int × Int)), e = .returned v ∧ S xs ∧ w'.ownsRow w.heap.size tE 2 v xs.length (xs.flatMap fun x : Int × Int => [Value.int ka x.1, Value.int kb x.2]) ∧ RowKit.Below w.heap.size w w' := by
  have mixed := T.mixed; have u0 := T.u0; have a0 := T.a0; have z0 := T.z0; have uS := T.uS; have aS := T.aS; have zS := T.zS; have vS := T.vS; have aE := T.aE; have zE := T.zE; have vE := T.vE
  have r0 := fun w => run_underlying (w := w) T.u0; have rS := fun w => run_underlying (w := w) T.uS
  have eg' : ∀ args w, (callFunc g args).run P w = .ok (.enter g args) w := eg
  obtain ⟨i0, hi, hz0, hz1, hz2⟩ := info_parts T.iE
  refine (callsIn_wide (n := 6)).1 ?_
  refine callsIn_of_wp_marks hf hb trivial ?_ rfl
  simp only [hn, List.size_toArray, List.length_cons, List.length_nil, Nat.reduceAdd, Nat.reduceSub, Array.replicate_succ, Array.replicate_zero, List.push_toArray, List.append_toArray, List.nil_append, List.cons_append]
  unfold apCode2
  gi_wp2
  have hB1 : RowKit.Below w.heap.size w (w.alloc (.cells #[.slice none 0 0] tS)) := (RowKit.Below.refl _ w).alloc (Nat.le_refl _) _
  have hws : w.heap.size ≤ (w.alloc (.cells #[.slice none 0 0] tS)).heap.size := by simp
  refine wpIn_rangeFunc_ownH rfl (by omega) (gf := g) (lb := lb) rfl trivial eg' hseq (fun h k => h.trans k) (fun W l o o' hl h h1 h2 => Keep2.book hws W l o o' hl h h1 h2) hB1 (fun _ => rfl)
    (ApI w.heap.size w w.heap.size tS tE 2 (fun x : Int × Int => [Value.int ka x.1, Value.int kb x.2])) (fun _ _ _ => False) (apI_own hws (Nat.le_refl _)) (fun _ _ _ _ _ hs _ _ => hs)
    ⟨⟨_, Boxed.new _ _ _, ⟨rfl, .inl ⟨rfl, rfl⟩⟩, trivial⟩, hB1⟩
    (fun (x : Int × Int) a' W => ∃ b, a' = { tmps := #[.slice none 0 0, .func (.func g) #[] lb, .pointer (some ⟨w.heap.size, 0, none⟩), undef, .slice none 0 0, .pointer (some ⟨b, 0, none⟩), .func (.func g) #[] lb, .agg #[.int ka x.1, .int kb x.2], undef, undef, undef, undef, undef], defers := [] } ∧ W.heap[b]? = some (.cells #[.int ka x.1, .int kb x.2] tE (0, 0)))
    (fun x a' _ W W' row h hg hr => h.imp fun b hb => ⟨hb.1, (grownBy_keeps_cells hg (fun r e => (hr r e).2) hb.2 rfl).trans hb.2⟩) ?assign ?body ?done ?stop
  case assign =>
    intro l pre x W K hI hK
    unfold apAssign2
    gi_wp2_with (rw [Oper.semAt_eq _ _ _ (fun c h => by cases h)]; go_simp; try go_bits)
    exact hK _ _ ((KeepsOthers.alloc _ _).from _) ⟨KeepsWalks.alloc _ _, (RowKit.Below.refl _ _).alloc hI.2.size _⟩ ((apI_own hws (Nat.le_refl _)).alloc _ hI) ⟨W.heap.size, rfl, World.alloc_heap_new _ _⟩
  case body =>
    rintro l pre x a' W hl _ ⟨⟨v, hv, hrow, _⟩, hbel⟩ ⟨b, rfl, hbx⟩ hlen
    have hc := hv.cell
    have hfz := hv.frozen
    have hsz := hbel.size
    have hx0 : W.cell? ⟨b, 0, none⟩ = some (.int ka x.1) := by rw [cell_of hbx]; rfl
    have hx1 : W.cell? ⟨b, 1, none⟩ = some (.int kb x.2) := by rw [cell_of hbx]; rfl
    unfold apBody2
    have hb1 : pre.length + 1 ≤ maxLen := Nat.le_trans hlen hN
    have hb2 : (pre.length + 1) * by_ ≤ 140737488355328 := Nat.le_trans (Nat.mul_le_mul_right by_ hlen) hNb
    have hb3 : w.heap.size ≤ (W.alloc (.cells #[.int ka x.1, .int kb x.2] tE)).heap.size := by rw [World.size_alloc]; omega
    gi_wp2_with (first
      | (gi_at_builtin; refine wpListIn_append_own _ rfl _ _ tS rfl w.heap.size tE i0 (.agg #[.int ka 0, .int kb 0]) 2 by_ T.uS hi hz0 hz1 hz2 T.zc (by decide) _ _ _ rfl (hrow.alloc _) ⟨W.heap.size, 0, none⟩ 1 1 [Value.int ka x.1, Value.int kb x.2] rfl rfl (cells_new _ _ _) (by simp [Value.oneCell']) hb1 hb2 hb3 ?_; intro v' w3 hown' hg3 hnil3
         have hg3 : (W.alloc (.cells #[.int ka x.1, .int kb x.2] tE)).grownBy w3 v.ownBlock := hg3
         obtain ⟨q1, q2, q3, q4, q5⟩ := hv.appended T.ne hrow hsz (Nat.le_refl _) hown' hg3
         obtain ⟨g', cap', rfl⟩ := ownsRow_succ hown'
         have hc3 := q1.cell
         have hf3 := q1.frozen
         clear hnil3
         go_frame)
      | (rw [Oper.semAt_eq _ _ _ (fun c h => by cases h)]; go_simp; try go_bits))
    exact ⟨q4.from _, ⟨q4.walks, q5⟩, ⟨_, q2, by simpa using q3, trivial⟩, hbel.trans q5⟩
  case done =>
    rintro D xs W hD hS ⟨⟨v, hv, hrow, _⟩, hbel⟩ hK
    have hc := hv.cell
    have hfz := hv.frozen
    gi_wp2
    refine ⟨by simp, .inl ⟨_, _, rfl, run_takeDeferred hK, ?_⟩⟩
    exact ⟨_, results_tmp hres _ _ _, v, xs, rfl, hS, ownsRow_putObj hrow _ hK rfl, hbel.grown (grownBy_putObj' _ _ _) hbel.size (fun j e => by cases e; exact Nat.le_trans hws hD)⟩
  case stop =>
    rintro D c pre W _ _ h _
    exact h.elim
end Go.Ev
end
section
set_option linter.unusedVariables false
set_option linter.unusedSimpArgs false
set_option linter.unusedVariables false
namespace Go.Ev
open Go.RowKit Go.Shelf Go.Proofs
variable {P : Program}
theorem next_raw {w : World} {b m c : Nat} {sn : Array Nat} {es : Array MapEntry} (h3 : w.heap[b]? = some (.mapIter (some m) c sn c)) (h6 : w.heap[m]? = some (.map es c)) (hborn : ∀ e ∈ es, e.born < c) (ty : TypeId) :
    ∃ w1, w1.heap = w.heap ∧ (w1 = w ∨ w1 = w.drew) ∧ (((∀ e ∈ es, sn.contains e.born = true) ∧ (Instr.next (.pointer (some ⟨b, 0, none⟩)) false ty).run P w = .ok (.tuple #[.bool false]) w1) ∨
      ∃ e ∈ es, sn.contains e.born = false ∧ (Instr.next (.pointer (some ⟨b, 0, none⟩)) false ty).run P w = .ok (.tuple #[.bool true, e.key, e.val]) { w1 with heap := w1.heap.setIfInBounds b (.mapIter (some m) c (sn.push e.born) c) }) := by
  obtain ⟨left, hleft⟩ : ∃ left, left = es.filter (fun e => !sn.contains e.born) := ⟨_, rfl⟩
  have hold : left.filter (fun e => decide (e.born < c)) = left := by
    apply Array.ext'
    rw [Array.toList_filter, List.filter_eq_self]
    intro e he
    rw [hleft, Array.toList_filter] at he
    simpa using hborn e (Array.mem_toList_iff.1 (List.mem_filter.1 he).1)
  have hnew : left.filter (fun e => decide (e.born ≥ c)) = #[] := by
    apply Array.ext'
    rw [Array.toList_filter]
    show _ = []
    rw [List.filter_eq_nil_iff]
    intro e he
    rw [hleft, Array.toList_filter] at he
    have := hborn e (Array.mem_toList_iff.1 (List.mem_filter.1 he).1)
    simp
    omega
  have hchk : (!sn.isEmpty && !es.isEmpty && es.all (fun e => decide (e.born ≥ c))) = false := by
    cases hes : es.isEmpty with
    | true => simp
    | false =>
      have : ∃ e, e ∈ es := by
        rw [Array.isEmpty_eq_false_iff_exists_mem] at hes
        exact hes
      obtain ⟨e, he⟩ := this
      have hlt := hborn e he
      have : es.all (fun e => decide (e.born ≥ c)) = false := by
        rw [Bool.eq_false_iff]
        intro hc
        rw [Array.all_eq_true_iff_forall_mem] at hc
        have := hc e he
        simp at this
        omega
      rw [this]
      simp
  obtain ⟨cands, hcands⟩ : ∃ cands : Array (Option MapEntry), cands = (if left.isEmpty then #[none] else #[]) ++ left.map some := ⟨_, rfl⟩
  have hrun : ∀ (i : Nat) (w1 : World), (choose (.mapNext cands.size)).run P w = .ok i w1 → (Instr.next (.pointer (some ⟨b, 0, none⟩)) false ty).run P w =
      ((match cands[i]? with
        | some (some e) => (do setObj b (.mapIter (some m) c (sn.push e.born) c); pure (.tuple #[.bool true, e.key, e.val]))
        | some none => pure (.tuple #[.bool false])
        | none => stuck "Next: no such candidate" : Sem Value)).run P w1 := by
    intro i w1 hi
    rw [hcands] at hi ⊢
    simp only [Instr.next, Sem.run_bind, run_getIter h3, Result.andThen_ok, run_getMap h6, hchk, Bool.false_eq_true, if_false, Sem.run_pure, ← hleft, hold, hnew, Array.append_empty, hi]
    rfl
  have hne' : 0 < cands.size := by
    rw [hcands]
    cases hl : left.isEmpty with
    | true => simp; omega
    | false =>
      have : 0 < left.size := by
        rcases Nat.eq_zero_or_pos left.size with h0 | h0
        · rw [Array.isEmpty_iff_size_eq_zero.2 h0] at hl
          cases hl
        · exact h0
      simp [this]
  obtain ⟨i, w1, hi, hlt, hw1⟩ : ∃ i w1, (choose (.mapNext cands.size)).run P w = .ok i w1 ∧ i < cands.size ∧ (w1 = w ∨ w1 = w.drew) := by
    by_cases h1 : cands.size ≤ 1
    · exact ⟨0, w, by rw [run_choose]; simp [Question.forced, h1], hne', .inl rfl⟩
    · refine ⟨w.tape w.drawn (.mapNext cands.size) % cands.size, w.drew, by rw [run_choose, if_neg (by simp [Question.forced, h1])]; rfl, Nat.mod_lt _ hne', .inr rfl⟩
  have hheap : w1.heap = w.heap := by rcases hw1 with rfl | rfl <;> rfl
  have hdone := hrun i w1 hi
  refine ⟨w1, hheap, hw1, ?_⟩
  by_cases hl0 : left = #[]
  · have hc0 : cands = #[none] := by rw [hcands, hl0]; simp
    have hi0 : i = 0 := by rw [hc0] at hlt; simp at hlt; exact hlt
    subst hi0
    rw [hc0] at hdone
    refine .inl ⟨fun e he => ?_, hdone⟩
    cases hc : sn.contains e.born with
    | true => rfl
    | false =>
      have : e ∈ left := by rw [hleft]; exact Array.mem_filter.2 ⟨he, by rw [hc]; rfl⟩
      rw [hl0] at this
      simp at this
  · have hc1 : cands = left.map some := by
      rw [hcands]
      cases hl : left.isEmpty with
      | true => exact absurd (Array.isEmpty_iff.1 hl) hl0
      | false => simp
    have hil : i < left.size := by rw [hc1] at hlt; simpa using hlt
    have hci : cands[i]? = some (some left[i]) := by rw [hc1]; simp [hil]
    rw [hci] at hdone
    simp only [Sem.run_bind] at hdone
    have hb1 : w1.heap[b]? = some (.mapIter (some m) c sn c) := by rw [hheap]; exact h3
    rw [run_setIter _ hb1] at hdone
    simp only [Result.andThen_ok, Sem.run_pure] at hdone
    have hmem : left[i] ∈ es.filter (fun e => !sn.contains e.born) := by rw [← hleft]; exact Array.getElem_mem hil
    have := Array.mem_filter.1 hmem
    exact .inr ⟨left[i], this.1, by simpa using this.2, hdone⟩
section
variable {F : Fence} {n : Nat} {w w' : World} {ops : Array Oper} {rest : List Oper} {o : Oper} {a : Act} {Q : Exit → Act → World → Prop}
theorem wpListIn_range_raw (hg : o.guard = none) (m : Operand) (t : TypeId) (hop : o.op = Op.range t m) {v : Value} (hrun : (Instr.range t (a.eval m)).run P w = .ok v w') (hK : wpListIn F n P ops Q rest (a.put o.dst v) w') : wpListIn F n P ops Q (o :: rest) a w := by
  refine wpListIn_plain hg fun K' hK' => ?_
  unfold Oper.wpIn
  refine ⟨by simp [Oper.about, hop], ?_⟩
  rw [Oper.semAt_plain F _ _ (by rw [hop]; intro c hc'; cases hc')]
  simp [execOp, hop, hrun, Result.andThen]
  exact hK' _ _ hK
theorem wpListIn_next_raw (hg : o.guard = none) (it : Operand) (hop : o.op = Op.next it false) {v : Value} (hrun : (Instr.next (a.eval it) false o.type).run P w = .ok v w') (hK : wpListIn F n P ops Q rest (a.put o.dst v) w') : wpListIn F n P ops Q (o :: rest) a w := by
  refine wpListIn_plain hg fun K' hK' => ?_
  unfold Oper.wpIn
  refine ⟨by simp [Oper.about, hop], ?_⟩
  rw [Oper.semAt_plain F _ _ (by rw [hop]; intro c hc'; cases hc')]
  simp [execOp, hop, hrun, Result.andThen]
  exact hK' _ _ hK
end
def keCode2 (tM tK tB tY t0 : TypeId) : Code := (Code.region 0 #[{ dst := some 4, op := .load tM (.tmp 1), type := tM, pos := "iter.go:27", after := #[], guard := none }, { dst := some 5, op := .range tM (.tmp 4), type := t0, pos := "iter.go:27", after := #[{ on := 0, ground := .data }], guard := none }] false).seq
  (Code.block 0 ((Code.region 1 #[{ dst := some 6, op := .next (.tmp 5) false, type := t0, pos := "iter.go:27", after := #[], guard := none }, { dst := some 7, op := .extract (.tmp 6) 0, type := tB, pos := "iter.go:27", after := #[{ on := 0, ground := .data }], guard := none }] false).seq ((Code.cond (.tmp 7) .skip (.exit 0)).seq
  (Code.block 1 ((Code.region 2 #[{ dst := some 8, op := .entry (.tmp 5), type := t0, pos := "iter.go:27", after := #[], guard := none }, { dst := some 9, op := .extract (.tmp 8) 0, type := tK, pos := "iter.go:27", after := #[{ on := 0, ground := .data }], guard := none }, { dst := some 3, op := .alloc tK, type := t0, pos := "iter.go:27", after := #[], guard := none }, { dst := none, op := .store tK (.tmp 3) (.tmp 9), type := t0, pos := "iter.go:27", after := #[{ on := 2, ground := .data }, { on := 1, ground := .data }, { on := 0, ground := .phase }, { on := 1, ground := .phase }, { on := 2, ground := .phase }], guard := none }] false).seq
    ((Code.region 3 #[{ dst := some 10, op := .move (.tmp 0), type := tY, pos := "iter.go:28", after := #[], guard := none }, { dst := some 11, op := .load tK (.tmp 3), type := tK, pos := "iter.go:28", after := #[], guard := none }, { dst := some 12, op := .call { callee := .value (.tmp 10), args := #[.tmp 11], argTypes := #[tK] }, type := tB, pos := "iter.go:28", after := #[{ on := 0, ground := .data }, { on := 1, ground := .data }], guard := none }, { dst := some 13, op := .unOp .not tB (.tmp 12), type := tB, pos := "iter.go:28", after := #[{ on := 2, ground := .data }], guard := none }] false).seq
    (Code.cond (.tmp 13) .ret .skip)))))).loop)
structure KeTy (P : Program) (tM tK tV tB tY t0 : TypeId) (ka kb : IntKind) : Prop where
  mixed : P.follows .mixedOrders = true
  u0 : P.underlying t0 = some (.tuple #[])
  a0 : ∀ w, (isAgg t0).run P w = .ok false w
  z0 : ∀ w, (Go.sizeOf t0).run P w = .ok 1 w
  uM : P.underlying tM = some (.map tK tV)
  aM : ∀ w, (isAgg tM).run P w = .ok false w
  zM : ∀ w, (Go.sizeOf tM).run P w = .ok 1 w
  aK : ∀ w, (isAgg tK).run P w = .ok true w
  zK : ∀ w, (Go.sizeOf tK).run P w = .ok 2 w
  vK : ∀ w, (zeroValue tK).run P w = .ok (.agg #[.int ka 0, .int kb 0]) w
  uB : P.underlying tB = some .bool
  aB : ∀ w, (isAgg tB).run P w = .ok false w
  zB : ∀ w, (Go.sizeOf tB).run P w = .ok 1 w
  aY : ∀ w, (isAgg tY).run P w = .ok false w
  zY : ∀ w, (Go.sizeOf tY).run P w = .ok 1 w
abbrev seenOf (w : World) (b : Nat) : Nat := match w.heap[b]? with
  | some (.mapIter _ _ sn _) => sn.size
  | _ => 0
set_option maxRecDepth 100000 in
set_option maxHeartbeats 2000000 in
theorem keys2 {tM tK tV tB tY t0 : TypeId} {ka kb : IntKind} (T : KeTy P tM tK tV tB tY t0 ka kb) {f : FuncId} {fn : Func} (hf : P.funcs[f]? = some fn) (hb : fn.body = some (keCode2 tM tK tB tY t0)) (hn : fn.ntmps = 14) (hres : fn.results = #[])
    {vt : Ty} {l : List (Nat × (Ty.pair (.pair (.int ka) (.int kb)) vt).den)} {c m Bm : Nat} {S : Nat → Prop} {es : Array MapEntry} {w : World} (hBm : w.cell? ⟨Bm, 0, none⟩ = some (.map (some m))) (hm : w.heap[m]? = some (.map es c)) (hin : MapIn w S (.pair (.int ka) (.int kb)) vt l es.toList)
    (hall : ∀ e ∈ l, e.1 < c) (hnd : (l.map (·.1)).Nodup) :
    SeqStopsK Fence.wide 5 P f #[.pointer (some ⟨Bm, 0, none⟩)] (fun x : Int × Int => #[Value.agg #[.int ka x.1, .int kb x.2]]) (Keep2 w.heap.size) (fun ys => ys.Perm (l.map (·.2.1))) (fun _ => True) l.length w := fun lp J Jx W hW hJ hJx hY h0 => by
  have mixed := T.mixed; have u0 := T.u0; have a0 := T.a0; have z0 := T.z0; have uM := T.uM; have aM := T.aM; have zM := T.zM; have aK := T.aK; have zK := T.zK; have vK := T.vK; have uB := T.uB; have aB := T.aB; have zB := T.zB; have aY := T.aY; have zY := T.zY
  have r0 := fun w => run_underlying (w := w) T.u0; have rM := fun w => run_underlying (w := w) T.uM; have rB := fun w => run_underlying (w := w) T.uB
  have hcW : W.cell? ⟨Bm, 0, none⟩ = some (.map (some m)) := (hW.cell (p := ⟨Bm, 0, none⟩) (cell_lt hBm)).trans hBm
  have hmW : W.heap[m]? = some (.map es c) := (hW.block m (heap_lt hm)).trans hm
  have hborn : ∀ e ∈ es, e.born < c := fun e he => by
    obtain ⟨i, hi, hie⟩ := List.getElem_of_mem (Array.mem_toList_iff.2 he)
    have hlen := hin.length
    obtain ⟨e', h1, h2, _⟩ := hin.get i _ (List.getElem?_eq_getElem (by omega))
    rw [List.getElem?_eq_getElem hi, hie] at h1
    cases h1
    rw [h2]
    exact hall _ (List.getElem_mem _)
  refine callsIn_of_wp hf hb trivial ?_ rfl
  simp only [hn, List.size_toArray, List.length_cons, List.length_nil, Nat.reduceAdd, Nat.reduceSub, Array.replicate_succ, Array.replicate_zero, List.push_toArray, List.append_toArray, List.nil_append, List.cons_append]
  unfold keCode2
  have hrg : (Instr.range tM (.map (some m))).run P W = .ok (.pointer (some ⟨W.heap.size, 0, none⟩)) (W.alloc (.mapIter (some m) c #[] c)) := by
    simp [Instr.range, rM, run_getMap hmW]
  gi_wp2_with (gi_at_range; refine wpListIn_range_raw rfl _ _ rfl hrg ?_)
  have hrW : (W.alloc (.mapIter (some m) c #[] c)).heap[W.heap.size]? = some (.mapIter (some m) c #[] c) := heap_push _ _
  have hgW : W.grownBy (W.alloc (.mapIter (some m) c #[] c)) none := World.grownBy_alloc W _ none
  have hsz : w.heap.size ≤ W.heap.size := hW.size
  gi_loopw [3] (fun _ wr => ∃ (dn rs : List (Nat × (Ty.pair (.pair (.int ka) (.int kb)) vt).den)) (sn : Array Nat), l.Perm (dn ++ rs) ∧ sn.toList = dn.map (·.1) ∧ wr.heap[W.heap.size]? = some (.mapIter (some m) c sn c) ∧ W.heap.size < wr.heap.size ∧ J (dn.map (·.2.1)) wr ∧ RowKit.Below w.heap.size w wr) (fun _ wr => l.length - seenOf wr W.heap.size)
  case atStart =>
    exact ⟨[], l, #[], List.Perm.refl _, rfl, hrW, heap_lt hrW, hJ _ _ _ none h0 hgW (fun r e => by cases e), hW.alloc hsz _⟩
  case round =>
    obtain ⟨dn, rs, sn, hperm, hsn, hit, hlt, hJd, hbel⟩ := hrel
    have hmr : wr.heap[m]? = some (.map es c) := (hbel.block m (heap_lt hm)).trans hm
    have hmne : m ≠ W.heap.size := fun e => by rw [← e, hmr] at hit; cases hit
    clear hrg hcW hgW
    obtain ⟨w1, hw1, hw1', ⟨hdone, hrun⟩ | ⟨me, hme, hns, hrun⟩⟩ := next_raw (P := P) hit hmr hborn t0
    · have hJ1 : J (dn.map (·.2.1)) w1 := hJ _ _ _ none hJd (by
        rcases hw1' with rfl | rfl
        · exact ⟨rfl, rfl, rfl, Nat.le_refl _, fun _ _ _ => rfl⟩
        · exact ⟨rfl, rfl, rfl, Nat.le_refl _, fun _ _ _ => rfl⟩) (fun r e => by cases e)
      have hrs : rs = [] := by
        cases rs with
        | nil => rfl
        | cons q rs =>
          have hq : q ∈ l := hperm.mem_iff.2 (List.mem_append.2 (.inr List.mem_cons_self))
          obtain ⟨i, hi, hie⟩ := List.getElem_of_mem hq
          obtain ⟨e', h1, h2, _⟩ := hin.get i _ (List.getElem?_eq_getElem hi)
          have h3 := hdone e' (Array.mem_toList_iff.1 (List.mem_of_getElem? h1))
          rw [h2, hie] at h3
          have h4 : q.1 ∈ dn.map (·.1) := by rw [← hsn]; exact Array.mem_toList_iff.2 (Array.contains_iff_mem.1 h3)
          have h5 := (hperm.map (·.1)).nodup_iff.1 hnd
          rw [List.map_append, List.map_cons] at h5
          exact absurd rfl ((List.nodup_append.1 h5).2.2 _ h4 _ List.mem_cons_self)
      subst hrs
      rw [List.append_nil] at hperm
      gi_wp2_with (gi_at_next; refine wpListIn_next_raw rfl _ rfl hrun ?_)
      exact bodyPost_end (results_none hres _ _ _) rfl ⟨⟨_, rfl⟩, .inl ⟨_, (hperm.map (·.2.1)).symm, hJ1⟩⟩
    · obtain ⟨i, hi, hie⟩ := List.getElem_of_mem (Array.mem_toList_iff.2 hme)
      have hlen := hin.length
      obtain ⟨q, hq⟩ : ∃ q, l[i]? = some q := ⟨_, List.getElem?_eq_getElem (by omega)⟩
      obtain ⟨e', h1, h2, ⟨ck, hck, hkey⟩, hv⟩ := hin.get i q hq
      rw [List.getElem?_eq_getElem hi, hie] at h1
      cases h1
      obtain ⟨c1, c2, rfl, rfl, rfl⟩ := hck
      have hkey : me.key = .agg #[.int ka q.2.1.1, .int kb q.2.1.2] := hkey
      obtain ⟨w2, hw2⟩ : ∃ w2 : World, w2 = { w1 with heap := w1.heap.setIfInBounds W.heap.size (.mapIter (some m) c (sn.push me.born) c) } := ⟨_, rfl⟩
      rw [← hw2, hkey] at hrun
      have hg2 : wr.grownBy w2 (some W.heap.size) := by
        have e1 : w2.heap = wr.heap.setIfInBounds W.heap.size (.mapIter (some m) c (sn.push me.born) c) := by rw [hw2]; show Array.setIfInBounds _ _ _ = _; rw [hw1]
        refine ⟨?_, ?_, ?_, by rw [e1]; simp, fun k _ hk => by rw [e1, Array.getElem?_setIfInBounds, if_neg (fun e => hk (by rw [e]))]⟩ <;> (rw [hw2]; rcases hw1' with rfl | rfl <;> rfl)
      have hit2 : w2.heap[W.heap.size]? = some (.mapIter (some m) c (sn.push me.born) c) := by
        have e1 : w2.heap = wr.heap.setIfInBounds W.heap.size (.mapIter (some m) c (sn.push me.born) c) := by rw [hw2]; show Array.setIfInBounds _ _ _ = _; rw [hw1]
        rw [e1, Array.getElem?_setIfInBounds, if_pos rfl, if_pos hlt]
      have hm2 : w2.heap[m]? = some (.map es c) := (hg2.block m (heap_lt hmr) (fun e => hmne (Option.some.inj e))).trans hmr
      have hbm : (es.toList.map (·.born)).Nodup := by
        have : es.toList.map (·.born) = l.map (·.1) := by
          apply List.ext_getElem?
          intro j
          rw [List.getElem?_map, List.getElem?_map]
          by_cases hj : j < l.length
          · obtain ⟨e', g1, g2, _⟩ := hin.get j _ (List.getElem?_eq_getElem hj)
            rw [g1, List.getElem?_eq_getElem hj]
            simp [g2]
          · rw [List.getElem?_eq_none (by omega), List.getElem?_eq_none (by omega)]
            rfl
        rw [this]
        exact hnd
      have hfind : es.find? (fun e => e.born == me.born) = some me := by
        rw [← Array.find?_toList]
        cases hf : es.toList.find? (fun e => e.born == me.born) with
        | none => exact absurd (List.find?_eq_none.1 hf me (Array.mem_toList_iff.2 hme)) (by simp)
        | some e'' =>
          obtain ⟨i2, hi2, hie2⟩ := List.getElem_of_mem (List.mem_of_find?_eq_some hf)
          have hb2 : e''.born = me.born := by simpa using List.find?_some hf
          have h9 : (es.toList.map (·.born))[i2]? = (es.toList.map (·.born))[i]? := by
            rw [List.getElem?_map, List.getElem?_map, List.getElem?_eq_getElem hi2, List.getElem?_eq_getElem hi, hie, hie2]
            simp [hb2]
          have : i2 = i := (List.getElem?_inj (by simpa using hi2) hbm).1 h9
          subst this
          rw [← hie, ← hie2]
      have hen : (Instr.entry (.pointer (some ⟨W.heap.size, 0, none⟩))).run P w2 = .ok (.tuple #[.agg #[.int ka q.2.1.1, .int kb q.2.1.2], me.val]) w2 := by
        simp [Instr.entry, run_getIter hit2, run_getMap hm2, hfind, hkey]
      have hq' : q ∈ l := List.mem_of_getElem? hq
      have hnq : q.1 ∉ dn.map (·.1) := fun h => by
        rw [← hsn, ← h2] at h
        rw [Array.contains_iff_mem.2 (Array.mem_toList_iff.1 h)] at hns
        cases hns
      have hqr : q ∈ rs := by
        rcases List.mem_append.1 (hperm.mem_iff.1 hq') with h | h
        · exact absurd (List.mem_map.2 ⟨q, h, rfl⟩) hnq
        · exact h
      obtain ⟨r1, r2, rfl⟩ := List.append_of_mem hqr
      have hp' : l.Perm ((dn ++ [q]) ++ (r1 ++ r2)) := hperm.trans (by rw [List.append_assoc]; exact List.Perm.append_left dn List.perm_middle)
      have hll := hperm.length_eq
      simp only [List.length_append, List.length_cons] at hll
      have hJ2 : J (dn.map (·.2.1)) w2 := hJ _ _ _ (some W.heap.size) hJd hg2 (fun r e => by cases e; exact ⟨Nat.le_refl _, _, hit, rfl⟩)
      obtain ⟨w3, hw3⟩ : ∃ w3, w3 = w2.alloc (.cells #[.int ka q.2.1.1, .int kb q.2.1.2] tK) := ⟨_, rfl⟩
      have hJ3 : J (dn.map (·.2.1)) w3 := by rw [hw3]; exact hJ _ _ _ none hJ2 (World.grownBy_alloc w2 _ none) (fun r e => by cases e)
      obtain ⟨fn2, tmps, assign, body, hy, hR⟩ := hY (dn.map (·.2.1)) q.2.1 w3 hJ3 (by rw [List.length_map]; omega)
      have hb2 : RowKit.Below w.heap.size w w2 := hbel.grown hg2 (by omega) (fun k e => by cases e; omega)
      have hb3 : RowKit.Below w.heap.size w w3 := by rw [hw3]; exact hb2.alloc (by have := hb2.size; omega) _
      have hit3 : w3.heap[W.heap.size]? = some (.mapIter (some m) c (sn.push me.born) c) := by rw [hw3, heap_push_lt _ _ (heap_lt hit2)]; exact hit2
      clear hw2 hq
      subst hw3
      gi_wp2_with (gi_at_next; refine wpListIn_next_raw rfl _ rfl hrun ?_)
      refine hR.mono ?_
      rintro e W3 (⟨rfl, hJ4, hk4⟩ | ⟨rfl, hx4⟩)
      · gi_wp2
        have hit4 := hk4.1.same _ _ hit3 rfl
        go_roundw
        case rel => exact ⟨dn ++ [q], r1 ++ r2, sn.push me.born, hp', by simp [hsn, h2], hit4, heap_lt hit4, by simpa using hJ4, hb3.trans hk4.2⟩
        case measure =>
          have h8 : sn.size = dn.length := by rw [← Array.length_toList, hsn, List.length_map]
          simp only [seenOf, hit4, hit, Array.size_push]
          omega
      · gi_wp2
        exact bodyPost_ret (results_none hres _ _ _) rfl ⟨⟨_, rfl⟩, .inr ⟨_, trivial, hx4⟩⟩
end Go.Ev
end
