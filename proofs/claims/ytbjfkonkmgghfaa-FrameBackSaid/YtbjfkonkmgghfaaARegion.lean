/- A region that draws its order, walked in one order: words of mine over the base's wpAnyH. -/
import Derived.Test.YtbjfkonkmgghfaaALib
import Derived.OrdersHeld
namespace Go.Proofs.Ytbjfkonkmgghfaa.Mine
open Go.RowKit Go.Proofs.YtbjfkonkmgghfaaW.PrintWords Go.Proofs.YtbjfkonkmgghfaaW.PrintLast Go.Proofs.YtbjfkonkmgghfaaW.PrintMore
set_option linter.unusedVariables false
set_option linter.unusedSimpArgs false

/-- Is this an operation that may turn the world? -/
def evOp (o : Oper) : Bool := match o.op with
  | .move _ | .assign _ | .pick .. | .build .. | .load .. | .nilCheck _ | .binOp .. | .unOp .. | .convert .. | .makeInterface .. | .slice .. | .fieldAddr .. | .field .. | .indexAddr .. | .index .. | .lookup .. | .typeAssert .. | .extract .. => false
  | .call { callee := .builtin b, .. } => (match b with | .len | .cap | .min | .max => false | _ => true)
  | _ => true
/-- The order: what is quiet as soon as it may come up; an event where it alone may. -/
def ordGo (ops : Array Oper) : Nat → Array Bool → List (Nat × Bool)
  | 0, _ => []
  | n + 1, l =>
    let R := Region.ready .any ops l
    match R.find? (fun i => match ops[i]? with | some o => !evOp o | none => false) with
    | some i => (i, false) :: ordGo ops n (l.setIfInBounds i true)
    | none => match R with
      | i :: _ => (i, true) :: ordGo ops n (l.setIfInBounds i true)
      | [] => []
def ordOf (ops : Array Oper) : List (Nat × Bool) := ordGo ops ops.size (Array.replicate ops.size false)
/-- May the operations come up so? -/
def ordOk (ops : Array Oper) : List (Nat × Bool) → Array Bool → Bool
  | [], l => Region.ready .any ops l == []
  | (i, false) :: r, l => Region.free .any ops l i && (Region.ready .any ops l).contains i && ordOk ops r (l.setIfInBounds i true)
  | (i, true) :: r, l => (Region.ready .any ops l == [i]) && ordOk ops r (l.setIfInBounds i true)

/-- The region's operations, one behind the other, in the order L. -/
def wpOrd (P : Program) (ops : Array Oper) (Q : Exit → Act → World → Prop) (S : World → Prop) : List (Nat × Bool) → Act → World → Prop
  | [], a, w => Q .normal a w
  | (i, false) :: r, a, w => ∃ o v, ops[i]? = some o ∧ YieldsIf P ops S o v a ∧ S w ∧ wpOrd P ops Q S r (a.put o.dst v) w
  | (i, true) :: r, a, w => wpOp P ops Q i (fun a' w' => S w' ∧ wpOrd P ops Q S r a' w') a w

section
variable {P : Program} {ops : Array Oper} {Q : Exit → Act → World → Prop} {S : World → Prop}
theorem put_tmps (a : Act) (d : Option Tmp) (v : Value) : ∃ u, a.put d v = { a with tmps := u } := by
  cases d with
  | none => exact ⟨a.tmps, rfl⟩
  | some d => exact ⟨_, rfl⟩
theorem held_of_ord (hs : Region.noSelect ops = true) (hQ : ∀ c (a : Act) (u : Array Value) w, Q (.panic c) { a with tmps := u } w → Q (.panic c) a w) : ∀ (L : List (Nat × Bool)) (l : Array Bool) (n : Nat) (a : Act) (w : World), L.length ≤ n → ordOk ops L l = true → wpOrd P ops Q S L a w → wpAnyH P .any ops Q S n l a w
  | [], l, n, a, w, _, hk, h => by
    unfold ordOk at hk
    exact wpAnyH_done (by simpa using hk) h n
  | (i, false) :: r, l, n, a, w, hn, hk, h => by
    cases n with
    | zero => simp at hn
    | succ n =>
      unfold ordOk at hk
      simp only [Bool.and_eq_true] at hk
      obtain ⟨o, v, ho, hy, hS, h⟩ := h
      exact wpAnyH_take ho hs hk.1.1 hk.1.2 (fun c a w hh => by obtain ⟨u, hu⟩ := put_tmps a o.dst v; rw [hu] at hh; exact hQ c a u w hh) hy hS (held_of_ord hs hQ r _ n _ _ (by simpa using hn) hk.2 h)
  | (i, true) :: r, l, n, a, w, hn, hk, h => by
    cases n with
    | zero => simp at hn
    | succ n =>
      unfold ordOk at hk
      simp only [Bool.and_eq_true, beq_iff_eq] at hk
      refine wpAnyH_all hk.1 (by simp) (fun j hj => ?_)
      obtain rfl : j = i := by simpa using hj
      exact wpOp_mono (fun a' w' h' => ⟨h'.1, held_of_ord hs hQ r _ n _ _ (by simpa using hn) hk.2 h'.2⟩) h

/-- The beginning. -/
theorem wp_region_ord {id : Nat} {a : Act} {w : World} (S : World → Prop) (L : List (Nat × Bool)) (hm : P.follows .mixedOrders = true) (hs : Region.noSelect ops = true) (hk : ordOk ops L (Array.replicate ops.size false) = true) (hl : decide (L.length ≤ ops.size) = true)
    (hQ : ∀ c (a : Act) (u : Array Value) w, Q (.panic c) { a with tmps := u } w → Q (.panic c) a w)
    (h : wpOrd P ops Q S L a w.drew) : (Code.region id ops true).wp P Q a w :=
  wp_region_held (S := S) hm (held_of_ord hs hQ L _ _ a _ (of_decide_eq_true hl) hk h)
theorem ord_quiet {i : Nat} {r : List (Nat × Bool)} {o : Oper} {v : Value} {a a' : Act} {w : World} (ho : ops[i]? = some o) (hw : Region.wanted o (yielded ops a.tmps) = true) (hS : S w) (hv : ∀ w, S w → (execOp a.eval o).run P w = .ok (.value v) w) (ha : a.put o.dst v = a') (h : wpOrd P ops Q S r a' w) : wpOrd P ops Q S ((i, false) :: r) a w :=
  ⟨o, v, ho, .inl ⟨hw, hv⟩, hS, ha ▸ h⟩
theorem ord_off {i : Nat} {r : List (Nat × Bool)} {o : Oper} {a a' : Act} {w : World} (ho : ops[i]? = some o) (hw : Region.wanted o (yielded ops a.tmps) = false) (hS : S w) (ha : a.put o.dst undef = a') (h : wpOrd P ops Q S r a' w) : wpOrd P ops Q S ((i, false) :: r) a w :=
  ⟨o, undef, ho, .inr ⟨hw, rfl⟩, hS, ha ▸ h⟩
theorem ord_event {i : Nat} {r : List (Nat × Bool)} {o : Oper} {a : Act} {w : World} (ho : ops[i]? = some o) (hw : Region.wanted o (yielded ops a.tmps) = true) (h : o.wp P a w (fun a' w' => S w' ∧ wpOrd P ops Q S r a' w') Q) : wpOrd P ops Q S ((i, true) :: r) a w := by
  unfold wpOrd wpOp
  simp only [ho, hw, if_true]
  exact .inl h
theorem ord_done {a : Act} {w : World} (h : Q .normal a w) : wpOrd P ops Q S [] a w := h
end
end Go.Proofs.Ytbjfkonkmgghfaa.Mine
