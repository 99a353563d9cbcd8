/- Operations that only reckon. -/
import Derived.Test.YtdchhhedpipeiaaEvE
set_option linter.unusedVariables false
set_option linter.unusedSimpArgs false
namespace Go.Ev
open Go.RowKit

variable {P : Program} {E : Env} {w0 : Base} {w : World} {S0 : Nat → Prop} {hv : Hv} {s : St} {a : Act} {key : Nat} {o : Oper}

/-- An operation comes to what the evaluation says. -/
def Sound (P : Program) (w0 : Base) (S0 : Nat → Prop) (hv : Hv) (s : St) (a : Act) (w : World) (key : Nat) (o : Oper) (v : Slot) (st : Store) : Prop :=
  ∃ hv' val w', Done P o a w val w' ∧ Post w0 S0 hv s.st w key v st hv' val w'

theorem Sound.quiet (h : Rel w0 S0 hv s a w) {v : Slot} {val : Value} (hd : (execOp a.eval o).run P w = .ok (.value val) w) (hr : SlotRep w (All S0 hv s.st) hv v val) : Sound P w0 S0 hv s a w key o v s.st :=
  ⟨hv, val, w, .inl hd, Post.quiet h hr⟩

theorem op_move (h : Rel w0 S0 hv s a w) {x : Operand} (ho : o.op = .move x ∨ o.op = .assign x) {v : Slot} (he : s.ev x = some v) : Sound P w0 S0 hv s a w key o v s.st :=
  Sound.quiet h (by rcases ho with ho | ho <;> simp [execOp, ho]) (ev_rep h.tmps he)

theorem capKeys_rep (h : Rel w0 S0 hv s a w) : ∀ {l : List Operand} {ks : List Nat}, capKeys s l = some ks → All2 (fun k v => hv k = some v) ks (l.map a.eval)
  | [], ks, he => by
    simp only [capKeys, Option.some.injEq] at he
    subst he
    trivial
  | x :: r, ks, he => by
    simp only [capKeys] at he
    split at he
    · rename_i k hx
      split at he
      · rename_i cs hg
        split at he
        · rename_i m hm
          injection he with he
          subst he
          refine ⟨?_, capKeys_rep h hm⟩
          obtain ⟨u, h1, b, us, ty, rfl, _⟩ := h.st.objs _ _ hg
          rcases one_rep h.tmps hx with ⟨b', h2, e⟩ | ⟨b', o', len, cap, h2, _⟩
          · rw [h1] at h2
            injection h2 with h2
            injection h2 with h2
            injection h2 with h2
            injection h2 with h2
            subst h2
            rw [e]
            exact h1
          · rw [h1] at h2
            cases h2
        · cases he
      · cases he
    · cases he
theorem op_makeFunc (h : Rel w0 S0 hv s a w) {f : FuncId} {first captured : Array Operand} (ho : o.op = .makeFunc (.func f) first captured) (h0 : first.size = 0) {ks : List Nat} (hk : capKeys s captured.toList = some ks) : Sound P w0 S0 hv s a w key o (.one (.fn f ks)) s.st := by
  have hf : first = #[] := Array.eq_empty_of_size_eq_zero h0
  subst hf
  refine Sound.quiet h (val := .func (.func f) #[] (captured.map a.eval)) ?_ ⟨_, capKeys_rep h hk, by rw [← Array.toList_map]⟩
  simp [execOp, ho, Instr.makeFunc]
theorem op_nilCheck (h : Rel w0 S0 hv s a w) {x : Operand} (ho : o.op = .nilCheck x) {v : AV} (he : s.one x = some v) (hv' : (∃ a b c d, v = .ref a b c d) ∨ (∃ t x c, v = .cptr t x c) ∨ ∃ f l, v = .fn f l) : Sound P w0 S0 hv s a w key o (.one v) s.st := by
  have hr := one_rep h.tmps he
  refine Sound.quiet h (val := a.eval x) ?_ hr
  rcases hv' with ⟨k, i, sz, off, rfl⟩ | ⟨t, y, off, rfl⟩ | ⟨f, l, rfl⟩
  · rcases hr with ⟨b, _, e⟩ | ⟨b, o', len, cap, _, _, e⟩ <;> simp [execOp, ho, e]
  · obtain ⟨b, o', cs, _, _, e⟩ := hr
    simp [execOp, ho, e]
  · obtain ⟨l', _, e⟩ := hr
    simp [execOp, ho, e]

/-! ### Numbers -/
theorem intBin_run {op : BinOp} {k : IntKind} {x y : Int} {v : AV} (hs : op ≠ .shl ∧ op ≠ .shr) (he : intBin op k x y = some (true, v)) (T : TypeId) :
    ∃ val, (Go.binOp op T (.int k x) (.int k y)).run P w = .ok val w ∧ AVRep w (All S0 hv s.st) hv v val := by
  cases op <;> simp only [intBin, Option.some.injEq, Prod.mk.injEq, true_and, Bool.not_eq_true', decide_eq_false_iff_not, reduceCtorEq] at he
  case add => subst he; exact ⟨_, by simp [Go.binOp, Op.intArith], pure_int⟩
  case sub => subst he; exact ⟨_, by simp [Go.binOp, Op.intArith], pure_int⟩
  case mul => subst he; exact ⟨_, by simp [Go.binOp, Op.intArith], pure_int⟩
  case quo => obtain ⟨h0, rfl⟩ := he; exact ⟨_, by simp [Go.binOp, Op.intDiv, h0], pure_int⟩
  case rem => obtain ⟨h0, rfl⟩ := he; exact ⟨_, by simp [Go.binOp, Op.intDiv, h0], pure_int⟩
  case and => subst he; exact ⟨_, by simp [Go.binOp, Op.intBits], pure_int⟩
  case or => subst he; exact ⟨_, by simp [Go.binOp, Op.intBits], pure_int⟩
  case xor => subst he; exact ⟨_, by simp [Go.binOp, Op.intBits], pure_int⟩
  case andNot => subst he; exact ⟨_, by simp [Go.binOp, Op.intBits], pure_int⟩
  all_goals (subst he; exact ⟨_, by first | (simp [Go.binOp, Op.intCmp]; done) | (simp [Go.binOp, Op.intCmp]; rfl), pure_bool⟩)

theorem shiftBin_run {op : BinOp} {k k' : IntKind} {x y : Int} {v : AV} (he : shiftBin op k x y = some (true, v)) (T : TypeId) :
    ∃ val, (Go.binOp op T (.int k x) (.int k' y)).run P w = .ok val w ∧ AVRep w (All S0 hv s.st) hv v val := by
  cases op <;> simp only [shiftBin, Option.some.injEq, Prod.mk.injEq, decide_eq_true_eq, reduceCtorEq] at he
  case shl => obtain ⟨h0, rfl⟩ := he; exact ⟨_, by simp [Go.binOp, Op.shift, Int.not_lt.2 h0], pure_int⟩
  case shr => obtain ⟨h0, rfl⟩ := he; exact ⟨_, by simp [Go.binOp, Op.shift, Int.not_lt.2 h0], pure_int⟩

theorem floatBin_run {op : BinOp} {x y : Nat} {v : AV} (he : floatBin op x y = some (true, v)) (T : TypeId) :
    ∃ val, (Go.binOp op T (.float .f64 x) (.float .f64 y)).run P w = .ok val w ∧ AVRep w (All S0 hv s.st) hv v val := by
  cases op <;> simp only [floatBin, Option.some.injEq, Prod.mk.injEq, true_and, reduceCtorEq] at he
  case add => obtain ⟨h0, rfl⟩ := he; obtain ⟨r, hr⟩ := Option.isSome_iff_exists.1 h0; exact ⟨.float .f64 r, by simp [Go.binOp, Op.floatArith, hr], by rw [hr]; exact pure_f64⟩
  case sub => obtain ⟨h0, rfl⟩ := he; obtain ⟨r, hr⟩ := Option.isSome_iff_exists.1 h0; exact ⟨.float .f64 r, by simp [Go.binOp, Op.floatArith, hr], by rw [hr]; exact pure_f64⟩
  case mul => obtain ⟨h0, rfl⟩ := he; obtain ⟨r, hr⟩ := Option.isSome_iff_exists.1 h0; exact ⟨.float .f64 r, by simp [Go.binOp, Op.floatArith, hr], by rw [hr]; exact pure_f64⟩
  case quo => obtain ⟨h0, rfl⟩ := he; obtain ⟨r, hr⟩ := Option.isSome_iff_exists.1 h0; exact ⟨.float .f64 r, by simp [Go.binOp, Op.floatArith, hr], by rw [hr]; exact pure_f64⟩
  all_goals (subst he; exact ⟨_, by simp [Go.binOp, Op.floatCmp], pure_bool⟩)

theorem eqE_run (ok : EnvOk w0.tr P E) (h : Rel w0 S0 hv s a w) {T : TypeId} {x y : Slot} {vx vy : Value} (hx : SlotRep w (All S0 hv s.st) hv x vx) (hy : SlotRep w (All S0 hv s.st) hv y vy) {c : Bool} (he : eqE E T x y s.st = some c) :
    (Op.equal T vx vy).run P w = .ok c w ∧ ∀ op o1 o2, (eqGuard op T o1 o2 vx vy).run P w = .ok () w := by
  unfold eqE at he
  split at he
  · rename_i u hu
    split at he
    · rename_i p hp
      split at he
      · rename_i q hq
        have hT : ∀ b, (fun _ => False) b → All S0 hv s.st b := fun _ h => h.elim
        obtain ⟨cx, rx, rfl⟩ := slot_rep h.st hx hp (T := fun _ => False) hT (fun _ _ _ _ _ _ _ _ _ h => h)
        obtain ⟨cy, ry, rfl⟩ := slot_rep h.st hy hq (T := fun _ => False) hT (fun _ _ _ _ _ _ _ _ _ h => h)
        exact (ok.eqt T u hu).2 _ _ _ _ _ _ _ rx ry he
      · cases he
    · cases he
  · cases he

theorem eqGuard_int {op : BinOp} {T : TypeId} {x y : Operand} {k k' : IntKind} {m n : Int} : (eqGuard op T x y (.int k m) (.int k' n)).run P w = .ok () w := by
  unfold eqGuard
  cases op <;> rfl
theorem eqGuard_float {op : BinOp} {T : TypeId} {x y : Operand} {k k' : FloatKind} {m n : Nat} : (eqGuard op T x y (.float k m) (.float k' n)).run P w = .ok () w := by
  unfold eqGuard
  cases op <;> rfl

/-- '==' that is not of numbers. -/
theorem eqE_ops (ok : EnvOk w0.tr P E) (h : Rel w0 S0 hv s a w) {T : TypeId} {x y : Slot} {vx vy : Value} (hx : SlotRep w (All S0 hv s.st) hv x vx) (hy : SlotRep w (All S0 hv s.st) hv y vy) {c : Bool} (he : eqE E T x y s.st = some c) :
    (Go.binOp .eql T vx vy).run P w = .ok (.bool c) w ∧ (Go.binOp .neq T vx vy).run P w = .ok (.bool (!c)) w := by
  have hr := (eqE_run ok h hx hy he).1
  unfold eqE at he
  split at he
  · rename_i u hu
    split at he
    · rename_i p hp
      split at he
      · rename_i q hq
        have hT : ∀ b, (fun _ => False) b → All S0 hv s.st b := fun _ h => h.elim
        obtain ⟨cx, rx, rfl⟩ := slot_rep h.st hx hp (T := fun _ => False) hT (fun _ _ _ _ _ _ _ _ _ h => h)
        obtain ⟨cy, ry, rfl⟩ := slot_rep h.st hy hq (T := fun _ => False) hT (fun _ _ _ _ _ _ _ _ _ h => h)
        rcases (ok.eqt T u hu).1 with rfl | hu'
        · have e1 : _ = _ := rx
          have e2 : _ = _ := ry
          subst e1 e2
          have hr' : (Op.equal T (.bool p) (.bool q)).run P w = .ok c w := hr
          constructor
          · show (Go.binOp .eql T (.bool p) (.bool q)).run P w = _
            simp [Go.binOp, hr']
          · show (Go.binOp .neq T (.bool p) (.bool q)).run P w = _
            simp [Go.binOp, hr']
        · simp only [mkVal, hu', if_true] at hr ⊢
          constructor <;> simp [Go.binOp, hr]
      · cases he
    · cases he
  · cases he

theorem op_binOp (ok : EnvOk w0.tr P E) (h : Rel w0 S0 hv s a w) {op : BinOp} {T T' : TypeId} {x y : Operand} (ho : o.op = .binOp op T x y T') {sx sy : Slot} (hx : s.ev x = some sx) (hy : s.ev y = some sy) {v : AV} (he : binE E op T sx sy s.st = some (true, v)) :
    Sound P w0 S0 hv s a w key o (.one v) s.st := by
  have rx := ev_rep h.tmps hx
  have ry := ev_rep h.tmps hy
  have run : ∀ val, (eqGuard op T x y (a.eval x) (a.eval y)).run P w = .ok () w → (Go.binOp op T (a.eval x) (a.eval y)).run P w = .ok val w → (execOp a.eval o).run P w = .ok (.value val) w := fun val h1 h2 => by
    simp [execOp, ho, h1, h2]
  unfold binE binQ at he
  split at he
  · rename_i k m k' n
    obtain ⟨cx, e1, e2⟩ := rx
    obtain ⟨cy, e3, e4⟩ := ry
    have e1 : _ = _ := e1
    have e3 : _ = _ := e3
    subst e1 e3
    have e2 : a.eval x = .int k m := e2
    have e4 : a.eval y = .int k' n := e4
    split at he
    · obtain ⟨val, h1, h2⟩ := shiftBin_run (P := P) (w := w) (S0 := S0) (hv := hv) (s := s) (k' := k') he T
      exact Sound.quiet h (run val (by rw [e2, e4]; exact eqGuard_int) (by rw [e2, e4]; exact h1)) h2
    · obtain ⟨val, h1, h2⟩ := shiftBin_run (P := P) (w := w) (S0 := S0) (hv := hv) (s := s) (k' := k') he T
      exact Sound.quiet h (run val (by rw [e2, e4]; exact eqGuard_int) (by rw [e2, e4]; exact h1)) h2
    · rename_i n1 n2
      split at he
      · rename_i hk
        subst hk
        obtain ⟨val, h1, h2⟩ := intBin_run (P := P) (w := w) (S0 := S0) (hv := hv) (s := s) ⟨n1, n2⟩ he T
        exact Sound.quiet h (run val (by rw [e2, e4]; exact eqGuard_int) (by rw [e2, e4]; exact h1)) h2
      · cases he
  · rename_i m n
    obtain ⟨cx, e1, e2⟩ := rx
    obtain ⟨cy, e3, e4⟩ := ry
    have e1 : _ = _ := e1
    have e3 : _ = _ := e3
    subst e1 e3
    have e2 : a.eval x = .float .f64 m := e2
    have e4 : a.eval y = .float .f64 n := e4
    obtain ⟨val, h1, h2⟩ := floatBin_run (P := P) (w := w) (S0 := S0) (hv := hv) (s := s) he T
    exact Sound.quiet h (run val (by rw [e2, e4]; exact eqGuard_float) (by rw [e2, e4]; exact h1)) h2
  · split at he
    · obtain ⟨c, hc, e⟩ := Option.map_eq_some_iff.1 he
      injection e with e1 e2
      subst e2
      exact Sound.quiet h (run _ ((eqE_run ok h rx ry hc).2 _ _ _) (eqE_ops ok h rx ry hc).1) (pure_bool (hv := hv))
    · obtain ⟨c, hc, e⟩ := Option.map_eq_some_iff.1 he
      injection e with e1 e2
      subst e2
      exact Sound.quiet h (run _ ((eqE_run ok h rx ry hc).2 _ _ _) (eqE_ops ok h rx ry hc).2) (pure_bool (hv := hv))
    · cases he

theorem op_unOp (h : Rel w0 S0 hv s a w) {op : UnOp} {T : TypeId} {x : Operand} (ho : o.op = .unOp op T x) {c : Bool} {v : Slot} {st : Store} (he : evalOp E key o s = some (.val c v st)) : Sound P w0 S0 hv s a w key o v st := by
  simp only [evalOp, ho] at he
  cases op <;> simp only [Option.map_eq_some_iff, Eff.val.injEq, reduceCtorEq] at he
  case neg =>
    obtain ⟨⟨k, n⟩, hx, rfl, rfl, rfl⟩ := he
    exact Sound.quiet h (by simp [execOp, ho, int_rep h.tmps hx, Op.unary, Op.intArith]) (pure_int (hv := hv))
  case xor =>
    obtain ⟨⟨k, n⟩, hx, rfl, rfl, rfl⟩ := he
    exact Sound.quiet h (by simp [execOp, ho, int_rep h.tmps hx, Op.unary, Op.intBits]) (pure_int (hv := hv))
  case not =>
    obtain ⟨b, hx, rfl, rfl, rfl⟩ := he
    exact Sound.quiet h (by simp [execOp, ho, bool_rep h.tmps hx, Op.unary]) (pure_bool (hv := hv))

theorem op_convert (ok : EnvOk w0.tr P E) (h : Rel w0 S0 hv s a w) {src dst : TypeId} {x : Operand} (ho : o.op = .convert src dst x) {sx : Slot} (hx : s.ev x = some sx) {v : Slot} {st : Store} (he : convE E src dst sx s.st = some (.val true v st)) : Sound P w0 S0 hv s a w key o v st := by
  have rx := ev_rep h.tmps hx
  unfold convE at he
  split at he
  · cases he
  · rename_i us hs
    obtain ⟨d, hd⟩ := (ok.ty _ _ hs).desc
    split at he
    · rename_i k hk
      have hk' := (ok.ty _ _ hk).1
      split at he
      · rename_i k' n
        simp only [Option.some.injEq, Eff.val.injEq] at he
        obtain ⟨_, rfl, rfl⟩ := he
        obtain ⟨cx, e1, e2⟩ := rx
        have e1 : _ = _ := e1
        subst e1
        have e2 : a.eval x = .int k' n := e2
        exact Sound.quiet h (by simp [execOp, ho, e2, Go.convert, run_underlying hd, run_underlying hk', Conv.intToInt]) (pure_int (hv := hv))
      · rename_i b
        simp only [Option.some.injEq, Eff.val.injEq] at he
        obtain ⟨hb, rfl, rfl⟩ := he
        obtain ⟨cx, e1, e2⟩ := rx
        have e1 : _ = _ := e1
        subst e1
        have e2 : a.eval x = .float .f64 b := e2
        split at hb
        · rename_i n hn
          simp only [Bool.and_eq_true, decide_eq_true_eq] at hb
          rw [hn]
          exact Sound.quiet h (by simp [execOp, ho, e2, Go.convert, run_underlying hd, run_underlying hk', Conv.floatToInt, hn, hb.1, hb.2]) (pure_int (hv := hv))
        · cases hb
      · cases he
    · rename_i hk
      have hk' := (ok.ty _ _ hk).1
      split at he
      · rename_i k' n
        simp only [Option.some.injEq, Eff.val.injEq] at he
        obtain ⟨_, rfl, rfl⟩ := he
        obtain ⟨cx, e1, e2⟩ := rx
        have e1 : _ = _ := e1
        subst e1
        have e2 : a.eval x = .int k' n := e2
        exact Sound.quiet h (by simp [execOp, ho, e2, Go.convert, run_underlying hd, run_underlying hk', Conv.intToFloat]) (pure_f64 (hv := hv))
      · cases he
    · cases he

/-! ### Addresses and slices -/
theorem op_extract (h : Rel w0 S0 hv s a w) {x : Operand} {i : Nat} (ho : o.op = .extract x i) {l : List AV} (hx : s.ev x = some (.tup l)) {v : AV} (hl : l[i]? = some v) : Sound P w0 S0 hv s a w key o (.one v) s.st := by
  obtain ⟨vs, e, hr⟩ := ev_rep h.tmps hx
  obtain ⟨u, h1, h2⟩ := hr.get i v hl
  exact Sound.quiet h (by simp [execOp, ho, e, Instr.extract, h1]) h2

theorem op_fieldAddr (ok : EnvOk w0.tr P E) (h : Rel w0 S0 hv s a w) {T : TypeId} {x : Operand} {f : Nat} (ho : o.op = .fieldAddr T x f) {d n : Nat} (hf : E.fld T f = some (d, n)) {av : AV} (hx : s.one x = some av) {v : AV}
    (hv' : (∃ k i sz off, av = .ref k i sz off ∧ v = .ref k i sz (off + d)) ∨ ∃ e y off, av = .cptr e y off ∧ v = .cptr e y (off + d)) : Sound P w0 S0 hv s a w key o (.one v) s.st := by
  obtain ⟨hn, fs, fd, hu, hfd, rfl, hsz⟩ := ok.fld _ _ _ _ hf
  have hr := one_rep h.tmps hx
  have run : ∀ b off, a.eval x = .pointer (some ⟨b, off, none⟩) → (execOp a.eval o).run P w = .ok (.value (.pointer (some ⟨b, off + fd.offset, none⟩))) w := fun b off e => by
    have : (fieldPlace ⟨b, off, none⟩ fd).run P w = .ok ⟨b, off + fd.offset, none⟩ w := by
      simp only [fieldPlace, Sem.run_bind, run_sizeOf hsz, Result.andThen_ok, if_neg hn, Sem.run_pure, add_none]
    simp [execOp, ho, e, Instr.fieldAt, run_underlying hu, hfd, Instr.sureAddr, this]
  rcases hv' with ⟨k, i, sz, off, rfl, rfl⟩ | ⟨e, y, off, rfl, rfl⟩
  · rcases hr with ⟨b, h1, e⟩ | ⟨b, o', len, cap, h1, h2, e⟩
    · exact Sound.quiet h (run _ _ e) (.inl ⟨b, h1, rfl⟩)
    · exact Sound.quiet h (run _ _ e) (.inr ⟨b, o', len, cap, h1, h2, by rw [Nat.add_assoc]⟩)
  · obtain ⟨b, o', cs, h1, h2, e⟩ := hr
    exact Sound.quiet h (run _ _ e) ⟨b, o', cs, h1, h2, by rw [Nat.add_assoc]⟩
end Go.Ev
