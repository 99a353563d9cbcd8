/- Slices, addresses, loads, stores. -/
import Derived.Test.YtdchhhedpipeiaaEvF
set_option linter.unusedVariables false
set_option linter.unusedSimpArgs false
namespace Go.Ev
open Go.RowKit

variable {P : Program} {E : Env} {w0 : Base} {w : World} {S0 : Nat → Prop} {hv : Hv} {s : St} {a : Act} {key : Nat} {o : Oper}

theorem row_len {st : Store} (h : StRel w S0 hv st) {k n : Nat} (hl : st.len k = some n) : ∃ A cap, hv k = some (.slice A n cap) ∧ n ≤ cap ∧ (0 < n → ∃ b o, A = some ⟨b, o, none⟩) := by
  unfold Store.len at hl
  split at hl
  · rename_i e xs hg
    injection hl with hl
    subst hl
    obtain ⟨v, h1, h2⟩ := h.objs _ _ hg
    rcases h2 with ⟨A, rfl, rfl⟩ | ⟨b, o, cap, vs, ty, rfl, h3, h4, _⟩
    · exact ⟨A, 0, h1, Nat.le_refl _, fun h => absurd h (by simp)⟩
    · exact ⟨_, cap, h1, h4, fun _ => ⟨b, o, rfl⟩⟩
  · rename_i e xs hg
    injection hl with hl
    subst hl
    obtain ⟨v, h1, h2⟩ := h.objs _ _ hg
    obtain ⟨A, cap, he, hc, H⟩ := h2
    simp only [List.cons.injEq, and_true] at he
    subst he
    refine ⟨A, cap, h1, hc, fun h0 => ?_⟩
    obtain ⟨b, o, es, hA, _⟩ := H 0 xs[0] (List.getElem?_eq_getElem h0)
    exact ⟨b, o, hA⟩
  · cases hl

/-- A slot's length. -/
theorem len_rep (h : Rel w0 S0 hv s a w) {av : AV} {v : Value} (hr : AVRep w (All S0 hv s.st) hv av v) {n : Nat} (hl : lenOfAV s.st av = some n) : ∃ A cap, v = .slice A n cap ∧ n ≤ cap := by
  cases av with
  | pure t x =>
    cases t with
    | sl e =>
      simp only [lenOfAV, Option.some.injEq] at hl
      subst hl
      obtain ⟨cs, ⟨A, cap, rfl, hc, _⟩, rfl⟩ := hr
      exact ⟨A, cap, rfl, hc⟩
    | _ => cases hl
  | nil =>
    simp only [lenOfAV, Option.some.injEq] at hl
    subst hl
    exact ⟨none, 0, hr, Nat.le_refl _⟩
  | own k =>
    obtain ⟨A, cap, h1, h2, _⟩ := row_len h.st hl
    exact ⟨A, cap, Option.some.inj (hr.1.symm.trans h1), h2⟩
  | view k sz lo m =>
    simp only [lenOfAV, Option.some.injEq] at hl
    subst hl
    obtain ⟨A, len, cap, A', cap', _, h1, h2, h3, _, _, rfl⟩ := hr
    exact ⟨A', cap', rfl, by omega⟩
  | _ => cases hl

theorem TyOk.elem {e : Ty} {T : TypeId} (h : TyOk P (.sl e) T) : ∃ te, P.underlying T = some (.slice te) ∧ SizeIs P te e.size := by
  obtain ⟨_, te, h1, h2, _⟩ := h
  exact ⟨te, h1, h2.size⟩

theorem op_indexAddr (ok : EnvOk w0.tr P E) (h : Rel w0 S0 hv s a w) {T : TypeId} {x ix : Operand} (ho : o.op = .indexAddr T x ix) {e : Ty} (hT : E.ty T = some (.sl e)) {av : AV} (hx : s.one x = some av) {k : IntKind} {i : Int} (hi : s.int ix = some (k, i))
    {v : Slot} {st : Store} (he : indexE s.st e av i = some (.val true v st)) : Sound P w0 S0 hv s a w key o v st := by
  obtain ⟨te, hu, hsz⟩ := (ok.ty _ _ hT).elem
  have hr := one_rep h.tmps hx
  have hi' := int_rep h.tmps hi
  have run : ∀ b off n cap, a.eval x = .slice (some ⟨b, off, none⟩) n cap → 0 ≤ i → i < n → (execOp a.eval o).run P w = .ok (.value (.pointer (some ⟨b, off + i.toNat * e.size, none⟩))) w := fun b off n cap e1 h0 h1 => by
    simp [execOp, ho, e1, hi', Instr.indexAt, asIntOf, run_underlying hu, run_sizeOf hsz, h0, h1, add_none]
  unfold indexE at he
  split at he
  · rename_i k'
    split at he
    · rename_i n hn
      split at he
      · simp only [Option.some.injEq, Eff.val.injEq, Bool.and_eq_true, decide_eq_true_eq] at he
        obtain ⟨⟨h0, h1⟩, rfl, rfl⟩ := he
        obtain ⟨A, cap, hk, hc, hA⟩ := row_len h.st hn
        obtain ⟨b, off, rfl⟩ := hA (by omega)
        have e1 := Option.some.inj (hr.1.symm.trans hk)
        exact Sound.quiet h (run _ _ _ _ e1 h0 h1) (.inr ⟨b, off, n, cap, hk, by omega, rfl⟩)
      · cases he
    · cases he
  · rename_i k' sz lo n
    split at he
    · rename_i hsz'
      subst hsz'
      simp only [Option.some.injEq, Eff.val.injEq, Bool.and_eq_true, decide_eq_true_eq] at he
      obtain ⟨⟨h0, h1⟩, rfl, rfl⟩ := he
      obtain ⟨A, len, cap, A', cap', hk, g1, g2, g3, g4, g5, e1⟩ := hr
      obtain ⟨b, off, rfl⟩ := g4 (by omega)
      obtain rfl := g5 (by omega) b off rfl
      refine Sound.quiet h (run _ _ _ _ e1 h0 h1) (.inr ⟨b, off, len, cap, hk, by omega, ?_⟩)
      simp only [Nat.add_mul, Nat.add_assoc, Nat.add_zero]
    · cases he
  · rename_i e' xs
    split at he
    · rename_i hee
      subst hee
      simp only [Option.some.injEq, Eff.val.injEq, Bool.and_eq_true, decide_eq_true_eq] at he
      obtain ⟨⟨h0, h1⟩, rfl, rfl⟩ := he
      obtain ⟨cs, ⟨A, cap, rfl, hc, H⟩, e1⟩ := hr
      have hlt : i.toNat < List.length (α := e'.den) xs := by omega
      obtain ⟨b, off, es, rfl, hrep, hcell⟩ := H i.toNat _ (List.getElem?_eq_getElem hlt)
      refine Sound.quiet h (run _ _ _ _ e1 h0 h1) ⟨b, off + i.toNat * e'.size, es, ?_, hcell, rfl⟩
      simp only [List.getD_eq_getElem?_getD, List.getElem?_eq_getElem hlt, Option.getD_some]
      exact hrep
    · cases he
  · cases he

theorem bnd_rep (h : Rel w0 S0 hv s a w) {x : Option Operand} {d n : Int} (hb : bnd s x d = some n) : (x = none ∧ n = d) ∨ ∃ y k, x = some y ∧ a.eval y = .int k n := by
  unfold bnd at hb
  split at hb
  · injection hb with hb
    exact .inl ⟨rfl, hb.symm⟩
  · rename_i y
    split at hb
    · rename_i k m hm
      injection hb with hb
      subst hb
      exact .inr ⟨y, k, rfl, int_rep h.tmps hm⟩
    · cases hb

theorem sliceBounds_run (h : Rel w0 S0 hv s a w) {lo hi : Option Operand} {len cap : Nat} {l r : Int} (hl : bnd s lo 0 = some l) (hr : bnd s hi len = some r) (h0 : 0 ≤ l) (h1 : l ≤ r) (h2 : r ≤ len) (hc : len ≤ cap) :
    (Instr.sliceBounds true len cap (lo.map a.eval) (hi.map a.eval) none).run P w = .ok (l.toNat, r.toNat, cap) w := by
  rcases bnd_rep h hl with ⟨rfl, rfl⟩ | ⟨y, k, rfl, e1⟩ <;> rcases bnd_rep h hr with ⟨rfl, rfl⟩ | ⟨z, k', rfl, e2⟩
  · simp [Instr.sliceBounds]
  · have : r ≤ (cap : Int) := by omega
    simp [Instr.sliceBounds, e2, Instr.sliceBound, asIntOf, h1, this]
  · have : l ≤ (len : Int) := by omega
    simp [Instr.sliceBounds, e1, Instr.sliceBound, asIntOf, h0, this]
  · have g1 : r ≤ (cap : Int) := by omega
    have g2 : 0 ≤ r := by omega
    have g3 : l ≤ max r 0 := by omega
    simp [Instr.sliceBounds, e1, e2, Instr.sliceBound, asIntOf, h0, g1, g2, g3, h1]

theorem op_slice (ok : EnvOk w0.tr P E) (h : Rel w0 S0 hv s a w) {T : TypeId} {x : Operand} {lo hi : Option Operand} (ho : o.op = .slice T x lo hi none) {e : Ty} (hT : E.ty T = some (.sl e)) {av : AV} (hx : s.one x = some av) {len : Nat} (hlen : lenOfAV s.st av = some len)
    {l r : Int} (hl : bnd s lo 0 = some l) (hr : bnd s hi len = some r) {v : Slot} {st : Store} (he : sliceE s.st e av len l r = some (.val true v st)) : Sound P w0 S0 hv s a w key o v st := by
  obtain ⟨te, hu, hsz⟩ := (ok.ty _ _ hT).elem
  have hrep := one_rep h.tmps hx
  obtain ⟨A, cap, e1, hc⟩ := len_rep h hrep hlen
  have run : 0 ≤ l → l ≤ r → r ≤ len → (execOp a.eval o).run P w = .ok (.value (.slice (if cap = l.toNat then A else A.map (·.add (l.toNat * e.size))) (r.toNat - l.toNat) (cap - l.toNat))) w := fun h0 h1 h2 => by
    simp [execOp, ho, e1, Instr.sliceAt, Instr.slice, run_underlying hu, sliceBounds_run (P := P) h hl hr h0 h1 h2 hc, run_sizeOf hsz]
  have hA : ∀ b off, 0 < cap - l.toNat → A = some ⟨b, off, none⟩ → (if cap = l.toNat then A else A.map (·.add (l.toNat * e.size))) = some ⟨b, off + l.toNat * e.size, none⟩ := fun b off h0 hb => by
    rw [if_neg (by omega), hb]
    simp [add_none]
  unfold sliceE at he
  split at he
  · rename_i e' xs
    split at he
    · rename_i hee
      subst hee
      simp only [Option.some.injEq, Eff.val.injEq, Bool.and_eq_true, decide_eq_true_eq] at he
      obtain ⟨⟨⟨h0, h1⟩, h2⟩, rfl, rfl⟩ := he
      obtain ⟨cs, hrr, e2⟩ := hrep
      have hcs := pure_cell hrr (by rw [← e2, e1]; trivial)
      rw [← e2, e1] at hcs
      subst hcs
      refine Sound.quiet h (run h0 h1 h2) ⟨_, rep_part hrr (lo := l.toNat) (n := r.toNat - l.toNat) (by omega) rfl (fun h0' b off hb => hA b off h0' hb), rfl⟩
    · cases he
  · simp only [Option.some.injEq, Eff.val.injEq, Bool.and_eq_true, decide_eq_true_eq] at he
    obtain ⟨⟨⟨h0, h1⟩, h2⟩, rfl, rfl⟩ := he
    have e2 : a.eval x = .slice none 0 0 := hrep
    rw [e1] at e2
    injection e2 with e3 e4 e5
    subst e3 e4 e5
    refine Sound.quiet h (run h0 h1 h2) ?_
    show _ = _
    have : l.toNat = 0 := by omega
    have h3 : r.toNat = 0 := by omega
    simp [this, h3]
  · rename_i k
    split at he
    · rename_i hes
      simp only [Option.some.injEq, Eff.val.injEq, Bool.and_eq_true, decide_eq_true_eq] at he
      obtain ⟨⟨⟨h0, h1⟩, h2⟩, rfl, rfl⟩ := he
      obtain ⟨A2, cap2, hk, hc2, hA2⟩ := row_len h.st hlen
      have e2 := Option.some.inj (hrep.1.symm.trans hk)
      rw [e1] at e2
      injection e2 with e3 e4 e5
      subst e3 e5
      exact Sound.quiet h (run h0 h1 h2) ⟨A, len, cap, _, _, hk, by omega, hc, rfl, fun _ => hA2 (by omega), fun h0' b off hb => hA b off h0' hb, rfl⟩
    · cases he
  · rename_i k sz lo' n
    split at he
    · rename_i hes
      subst hes
      simp only [Option.some.injEq, Eff.val.injEq, Bool.and_eq_true, decide_eq_true_eq] at he
      obtain ⟨⟨⟨h0, h1⟩, h2⟩, rfl, rfl⟩ := he
      simp only [lenOfAV, Option.some.injEq] at hlen
      subst hlen
      obtain ⟨B, blen, bcap, A', cap', hk, g1, g2, g3, g4, g5, e2⟩ := hrep
      rw [e1] at e2
      injection e2 with e3 e4 e5
      subst e3 e5
      refine Sound.quiet h (run h0 h1 h2) ⟨B, blen, bcap, _, _, hk, by omega, g2, by omega, fun h' => g4 (by omega), fun h0' b off hb => ?_, rfl⟩
      rw [hA b (off + lo' * e.size) h0' (g5 (by omega) b off hb), Nat.add_mul, Nat.add_assoc]
    · cases he
  · cases he

theorem call_len {c : Call} (ho : o.op = .call c) (hc : c.callee = .builtin .len) {x : Operand} (hx : c.args.toList = [x]) {T : TypeId} (hT : c.argTypes[0]? = some T) {te : TypeId} (hu : P.underlying T = some (.slice te)) {A : Option Addr} {n cap : Nat} (hv' : a.eval x = .slice A n cap) :
    (execOp a.eval o).run P w = .ok (.value (.int .i64 n)) w := by
  have hargs : c.args = #[x] := by rw [← Array.toArray_toList (xs := c.args), hx]
  simp [execOp, ho, resolve, hc, hargs, invoke, builtin, Builtin.len_, hT, run_underlying hu, hv', goInt]

theorem op_len (ok : EnvOk w0.tr P E) (h : Rel w0 S0 hv s a w) {c : Call} (ho : o.op = .call c) (hc : c.callee = .builtin .len) {x : Operand} (hx : c.args.toList = [x]) {T : TypeId} (hT : c.argTypes[0]? = some T) {e : Ty} (hty : E.ty T = some (.sl e)) {av : AV} (hav : s.one x = some av) {n : Nat} (hn : lenOfAV s.st av = some n) :
    Sound P w0 S0 hv s a w key o (.one (.pure (.int .i64) (n : Int))) s.st := by
  obtain ⟨te, hu, _⟩ := (ok.ty _ _ hty).elem
  obtain ⟨A, cap, e1, _⟩ := len_rep h (one_rep h.tmps hav) hn
  exact Sound.quiet h (call_len ho hc hx hT hu e1) (pure_int (hv := hv))

theorem op_min (h : Rel w0 S0 hv s a w) {c : Call} (ho : o.op = .call c) (hc : c.callee = .builtin .min) {x y : Operand} (hx : c.args.toList = [x, y]) {k k' : IntKind} {m n : Int} (hm : s.int x = some (k, m)) (hn : s.int y = some (k', n)) :
    Sound P w0 S0 hv s a w key o (.one (.pure (.int k) (if n < m then n else m))) s.st := by
  have hargs : c.args = #[x, y] := by rw [← Array.toArray_toList (xs := c.args), hx]
  exact Sound.quiet h (by simp [execOp, ho, resolve, hc, hargs, invoke, builtin, Builtin.min_, int_rep h.tmps hm, int_rep h.tmps hn, Builtin.min2]) (pure_int (hv := hv))
theorem op_max (h : Rel w0 S0 hv s a w) {c : Call} (ho : o.op = .call c) (hc : c.callee = .builtin .max) {x y : Operand} (hx : c.args.toList = [x, y]) {k k' : IntKind} {m n : Int} (hm : s.int x = some (k, m)) (hn : s.int y = some (k', n)) :
    Sound P w0 S0 hv s a w key o (.one (.pure (.int k) (if n > m then n else m))) s.st := by
  have hargs : c.args = #[x, y] := by rw [← Array.toArray_toList (xs := c.args), hx]
  exact Sound.quiet h (by simp [execOp, ho, resolve, hc, hargs, invoke, builtin, Builtin.max_, int_rep h.tmps hm, int_rep h.tmps hn, Builtin.max2]) (pure_int (hv := hv))

/-! ### Loads -/
theorem loadVar_run {T : TypeId} {g : Bool} (hg : AggIs P T g) {b off : Nat} {cs : List Value} (hs : SizeIs P T cs.length) (hc : ∀ (j : Nat) (c : Value), cs[j]? = some c → w.cell? ⟨b, off + j, none⟩ = some c) (h1 : g = false → ∃ c, cs = [c]) :
    (loadVar T ⟨b, off, none⟩).run P w = .ok (if g then .agg cs.toArray else cs.headD undef) w := by
  unfold loadVar
  simp only [Sem.run_bind, run_isAgg hg, Result.andThen_ok]
  cases g with
  | true =>
    have := run_loadCells_list (P := P) (w := w) ⟨b, off, none⟩ cs (fun j v hj => by rw [add_none]; exact hc j v hj)
    simp [run_sizeOf hs, this]
  | false =>
    obtain ⟨c, rfl⟩ := h1 rfl
    have := hc 0 c rfl
    simp at this
    simp [this]

theorem load_run {T : TypeId} {x : Operand} (ho : o.op = .load T x) {b off : Nat} (hx : a.eval x = .pointer (some ⟨b, off, none⟩)) {v : Value} (h : (loadVar T ⟨b, off, none⟩).run P w = .ok v w) : (execOp a.eval o).run P w = .ok (.value v) w := by
  simp [execOp, ho, hx, Instr.loadAt, Instr.sureAddr, h]

/-- What is read at an address. -/
def Loads (P : Program) (w : World) (S : Nat → Prop) (hv : Hv) (T : TypeId) (v : Value) (sl : Slot) : Prop :=
  ∃ b off u, v = .pointer (some ⟨b, off, none⟩) ∧ (loadVar T ⟨b, off, none⟩).run P w = .ok u w ∧ SlotRep w S hv sl u

theorem load_part (ok : EnvOk w0.tr P E) (h : Rel w0 S0 hv s a w) {T : TypeId} {v : Value} {u : Ty} (hT : E.ty T = some u) {e : Ty} {y : e.den} {es : List Value} (hr : Rep w (All S0 hv s.st) e y es) {off : Nat} {z : u.den} (hp : proj e y off u = some z)
    {b d : Nat} (hx : v = .pointer (some ⟨b, d + off, none⟩)) (hc : ∀ (j : Nat) (c : Value), es[j]? = some c → w.cell? ⟨b, d + j, none⟩ = some c) : Loads P w (All S0 hv s.st) hv T v (.one (.pure u z)) := by
  obtain ⟨r1, r2⟩ := proj_rep hr hp
  have hT' := ok.ty _ _ hT
  have hlen : ((es.drop off).take u.size).length = u.size := by simp; omega
  refine ⟨_, _, _, hx, loadVar_run hT'.agg (cs := (es.drop off).take u.size) (by rw [hlen]; exact hT'.size) (fun j c hj => ?_) fun hg => ?_, ⟨_, r1, ?_⟩⟩
  · rw [List.getElem?_take] at hj
    split at hj
    · rw [List.getElem?_drop] at hj
      rw [Nat.add_assoc]
      exact hc _ _ hj
    · cases hj
  · have : u.size = 1 := by cases u <;> first | rfl | cases hg
    rw [this] at hlen
    exact List.length_eq_one_iff.1 (by rw [this]; exact hlen)
  · rfl

theorem loadE_loads (ok : EnvOk w0.tr P E) (h : Rel w0 S0 hv s a w) {T : TypeId} {av : AV} {va : Value} (hr : AVRep w (All S0 hv s.st) hv av va) {v : Slot} (he : loadE E T av s.st = some v) : Loads P w (All S0 hv s.st) hv T va v := by
  unfold loadE at he
  split at he
  · rename_i k i sz off
    split at he
    · rename_i cs hg
      obtain ⟨hd, hk, b, vs, ty, rfl, hw, hall⟩ := h.st.objs _ _ hg
      have e1 : va = .pointer (some ⟨b, off, none⟩) := by
        rcases hr with ⟨b', h1, h2⟩ | ⟨b', o', len, cap, h1, _⟩
        · rw [hk] at h1
          injection h1 with h1
          injection h1 with h1
          injection h1 with h1
          injection h1 with h1
          subst h1
          exact h2
        · rw [hk] at h1
          cases h1
      split at he
      · rename_i n hsh
        split at he
        · rename_i hle
          injection he with he
          subst he
          obtain ⟨h1, h2⟩ := ok.shape _ _ _ hsh
          have hl := hall.length
          have hlen : ((vs.toList.drop off).take n).length = n := by simp at hl ⊢; omega
          refine ⟨_, _, _, e1, loadVar_run h2 (cs := (vs.toList.drop off).take n) (by rw [hlen]; exact h1) (fun j c hj => ?_) (by simp), ⟨(vs.toList.drop off).take n, rfl, (hall.drop off).take n⟩⟩
          rw [List.getElem?_take] at hj
          split at hj
          · rw [List.getElem?_drop] at hj
            rw [cell_of hw]
            simpa using hj
          · cases hj
        · cases he
      · rename_i n hsh
        obtain ⟨c, hc, rfl⟩ := Option.map_eq_some_iff.1 he
        obtain ⟨h1, h2⟩ := ok.shape _ _ _ hsh
        obtain ⟨u, hu, hcr⟩ := hall.get _ _ hc
        have : (loadVar T ⟨b, off, none⟩).run P w = .ok u w := by
          unfold loadVar
          have hcell : w.cell? ⟨b, off, none⟩ = some u := by rw [cell_of hw]; simpa using hu
          simp [run_isAgg h2, hcell]
        exact ⟨_, _, _, e1, this, hcr.1⟩
      · cases he
    · rename_i e xs hg
      split at he
      · rename_i u hT
        split at he
        · rename_i hsz
          obtain ⟨z, hz, rfl⟩ := Option.map_eq_some_iff.1 he
          obtain ⟨hd, hk, hob⟩ := h.st.objs _ _ hg
          rcases hr with ⟨b', h1, h2⟩ | ⟨b', o', len, cap, h1, hi, e1⟩
          · rw [hk] at h1
            injection h1 with h1
            subst h1
            rcases hob with ⟨A, h3, _⟩ | ⟨b, o, cap, vs, ty, h3, _⟩ <;> cases h3
          · rw [hk] at h1
            injection h1 with h1
            subst h1
            rcases hob with ⟨A, h3, rfl⟩ | ⟨b, o, cap, vs, ty, h3, h4, h5, hw, h6, hin⟩
            · injection h3 with h3 h4
              omega
            · injection h3 with h3 h3' h3''
              injection h3 with h3
              injection h3 with h3 h7
              subst h3 h3' h3'' h7
              obtain ⟨es, hrep, hcell⟩ := hin i xs[i] (List.getElem?_eq_getElem hi)
              have hgd : xs.getD i e.dflt = xs[i] := by simp [List.getD_eq_getElem?_getD, List.getElem?_eq_getElem hi]
              rw [hgd] at hz
              subst hsz
              exact load_part ok h hT hrep hz e1 fun j c hj => by rw [cell_of hw]; exact hcell j c hj
        · cases he
      · cases he
    · rename_i e xs hg
      split at he
      · rename_i u hT
        split at he
        · rename_i hsz
          obtain ⟨z, hz, rfl⟩ := Option.map_eq_some_iff.1 he
          obtain ⟨hd, hk, A, cap0, hh, hc0, H⟩ := h.st.objs _ _ hg
          simp only [List.cons.injEq, and_true] at hh
          subst hh
          rcases hr with ⟨b', h1, h2⟩ | ⟨b', o', len, cap, h1, hi, e1⟩
          · rw [hk] at h1
            cases h1
          · rw [hk] at h1
            injection h1 with h1
            injection h1 with h1 h1' h1''
            subst h1 h1' h1''
            obtain ⟨b, o, es, hA, hrep, hcell⟩ := H i xs[i] (List.getElem?_eq_getElem hi)
            injection hA with hA
            injection hA with hA hA'
            subst hA hA'
            have hgd : xs.getD i e.dflt = xs[i] := by simp [List.getD_eq_getElem?_getD, List.getElem?_eq_getElem hi]
            rw [hgd] at hz
            subst hsz
            exact load_part ok h hT hrep hz e1 fun j c hj => (hcell j c hj).2
        · cases he
      · cases he
    · cases he
  · rename_i e y off
    split at he
    · rename_i u hT
      obtain ⟨z, hz, rfl⟩ := Option.map_eq_some_iff.1 he
      obtain ⟨b, o', cs, h1, h2, e1⟩ := hr
      exact load_part ok h hT h1 hz e1 fun j c hj => (h2 j c hj).2
    · cases he
  · cases he

theorem op_load (ok : EnvOk w0.tr P E) (h : Rel w0 S0 hv s a w) {T : TypeId} {x : Operand} (ho : o.op = .load T x) {av : AV} (hx : s.one x = some av) {v : Slot} (he : loadE E T av s.st = some v) : Sound P w0 S0 hv s a w key o v s.st := by
  obtain ⟨b, off, u, h1, h2, h3⟩ := loadE_loads (P := P) ok h (one_rep h.tmps hx) he
  exact Sound.quiet h (load_run ho h1 h2) h3
end Go.Ev
