/- Contracts and laws that the claim needs, packed from several texts. -/
import Derived.LoopN
import Derived.Scope
import Derived.Test.YtkjhofadaoofcaaQb
section
set_option linter.unusedVariables false
set_option linter.unusedSimpArgs false
namespace Go.Ev
open Go.RowKit
variable {P : Program} {E : Env} {w0 : Base} {S0 : Nat → Prop} {R : Type}
def Ex.to : Ex → Exit
  | .normal => .normal
  | .exit id => .exit id
  | .ret => .ret
def KOk (w0 : Base) (S0 : Nat → Prop) (K : Ex → St → Option R) (r : R) (Q : Exit → Act → World → Prop) : Prop :=
  ∀ e s a w hv, Rel w0 S0 hv s a w → (∀ j, s.next ≤ j → hv j = none) → K e s = some r → Q e.to a w
theorem KOk.then {K : Ex → St → Option R} {r : R} {Q : Exit → Act → World → Prop} (hK : KOk w0 S0 K r Q) {F : St → Option R} {N : Act → World → Prop} (hF : ∀ s a w hv, Rel w0 S0 hv s a w → (∀ j, s.next ≤ j → hv j = none) → F s = some r → N a w) :
    KOk w0 S0 (fun e s' => match e with | .normal => F s' | e => K e s') r (Exit.then N Q) := by
  intro e s a w hv h hf he
  cases e with
  | normal => exact hF s a w hv h hf he
  | exit id => exact hK (.exit id) s a w hv h hf he
  | ret => exact hK .ret s a w hv h hf he
theorem jn_some {j : Bool} {fuel : Nat} {f : St → Option R} {s : St} {r : R} (h : jn j fuel f s = some r) : f s = some r := by
  unfold jn at h
  split at h
  · exact h
  · split at h
    · cases h
    · exact h
theorem condS_same {c : Operand} {s : St} {b : Bool} (h : s.bool c = some b) : condS E c b s = s := by
  unfold condS
  cases E.lit with
  | false => rfl
  | true =>
  rw [cond_true]
  split
  · unfold St.bool at h
    split at h
    · rename_i hb
      injection h with h
      subst h
      exact set_same hb
    · cases h
  · rfl
theorem evalC_sound (ok : EnvOk w0.tr P E) (hmix : P.follows .mixedOrders = true) (fuel : Nat) : ∀ (c : Code) (K : Ex → St → Option R) (r : R) (Q : Exit → Act → World → Prop), KOk w0 S0 K r Q →
    ∀ (s : St) (a : Act) (w : World) (hv : Hv), Rel w0 S0 hv s a w → (∀ j, s.next ≤ j → hv j = none) → evalC E fuel c K s = some r → c.wp P Q a w := by
  intro c
  induction c with
  | skip => intro K r Q hK s a w hv h hf he; exact wp_skip (hK .normal s a w hv h hf he)
  | label l => intro K r Q hK s a w hv h hf he; exact wp_label (hK .normal s a w hv h hf he)
  | exit id => intro K r Q hK s a w hv h hf he; exact wp_exit (hK (.exit id) s a w hv h hf he)
  | ret => intro K r Q hK s a w hv h hf he; exact wp_ret (hK .ret s a w hv h hf he)
  | region id ops draw =>
    intro K r Q hK s a w hv h hf he
    simp only [evalC] at he
    have hfin : ∀ (s' : St) (hv' : Hv) (a' : Act) (w' : World), Rel w0 S0 hv' s' a' w' → (∀ j, s.next + 16 * ops.size ≤ j → hv' j = none) → K .normal { tmps := s'.tmps, st := s'.st, next := s.next + 16 * ops.size } = some r → Q .normal a' w' := fun s' hv' a' w' h' hf' hk =>
      hK .normal { tmps := s'.tmps, st := s'.st, next := s.next + 16 * ops.size } a' w' hv' (h'.ext rfl fun _ => rfl) hf' hk
    cases draw with
    | false =>
      simp only [Bool.false_eq_true, if_false] at he
      refine wp_region_list (runOps_sound ok ops.toList s.next s a w hv h hf he fun hv' s' a' w' h1 h2 _ h4 => ?_)
      exact hfin s' hv' a' w' h1 (fun j hj => h2 j (by simpa using hj)) h4
    | true =>
      simp only [if_true] at he
      obtain ⟨h1, h2⟩ := text_of_run (base := s.next) (s0 := s) ops.toList 0 rfl he
      have T : TextOk E ops s.next s := ⟨fun j o ho => (h1 j o (by omega) ho).1, fun j o ho => (h1 j o (by omega) ho).2, fun f X hX => (ok.ext f X hX).2.2⟩
      refine draw_sound ok hmix T h hf fun hv' a' w' g1 g2 => ?_
      rw [show max 0 ops.size = ops.size by omega] at h2
      exact hfin _ hv' a' w' g1 g2 h2
  | seq x y ihx ihy =>
    intro K r Q hK s a w hv h hf he
    simp only [evalC] at he
    refine wp_seq (ihx _ r _ (hK.then fun s' a' w' hv' h' hf' he' => ?_) s a w hv h hf he)
    obtain ⟨hv2, h2, hf2⟩ := canonB_sound (E := E) h' hf' y
    exact ihy K r Q hK _ a' w' hv2 h2 hf2 (jn_some he')
  | cond c x y ihx ihy =>
    intro K r Q hK s a w hv h hf he
    simp only [evalC] at he
    split at he
    · rename_i b hb
      have hc := bool_rep h.tmps hb
      cases b with
      | true =>
        rw [cond_true, condS_same hb] at he
        exact wp_cond_true hc (ihx K r Q hK s a w hv h hf he)
      | false =>
        rw [cond_false, condS_same hb] at he
        exact wp_cond_false hc (ihy K r Q hK s a w hv h hf he)
    · cases he
  | block id c ih =>
    intro K r Q hK s a w hv h hf he
    simp only [evalC] at he
    refine wp_block (ih _ r _ (fun e s' a' w' hv' h' hf' he' => ?_) s a w hv h hf he)
    cases e with
    | normal => exact hK .normal s' a' w' hv' h' hf' he'
    | ret => exact hK .ret s' a' w' hv' h' hf' he'
    | exit j =>
      simp only at he'
      show Exit.inBlock id Q (.exit j) a' w'
      simp only [Exit.inBlock]
      split at he'
      · rename_i hj
        rw [if_pos hj]
        exact hK .normal s' a' w' hv' h' hf' he'
      · rename_i hj
        rw [if_neg hj]
        exact hK (.exit j) s' a' w' hv' h' hf' he'
  | loop c ih =>
    intro K r Q hK s a w hv h hf he
    simp only [evalC] at he
    obtain ⟨hv2, h2, hf2⟩ := canon_sound (E := E) h hf c
    refine wp_loop_rounds fuel ?_
    have key : ∀ (n : Nat) (s : St) (a : Act) (w : World) (hv : Hv), Rel w0 S0 hv s a w → (∀ j, s.next ≤ j → hv j = none) → loopN (canon E c) (fun K' s' => evalC E fuel c K' s') n K s = some r → Code.rounds P c Q n a w := by
      intro n
      induction n with
      | zero => intro s a w hv h hf he; cases he
      | succ n ihn =>
        intro s a w hv h hf he
        simp only [loopN] at he
        rw [rounds_succ]
        refine ih _ r _ (hK.then fun s' a' w' hv' h' hf' he' => ?_) s a w hv h hf he
        obtain ⟨hv3, h3, hf3⟩ := canon_sound (E := E) h' hf' c
        exact ihn _ a' w' hv3 h3 hf3 he'
    exact key fuel _ a w hv2 h2 hf2 he
  | scope c ih =>
    intro K r Q hK s a w hv h hf he
    simp only [evalC] at he
    refine wp_scope_straight (ih K r _ (fun e s' a' w' hv' h' hf' he' => ?_) s a w hv h hf he)
    have := hK e s' a' w' hv' h' hf' he'
    cases e <;> exact this
  | goto l => intro K r Q hK s a w hv h hf he; simp [evalC] at he
  | refuse why => intro K r Q hK s a w hv h hf he; simp [evalC] at he
  | rangeFunc f ps x y ihx ihy => intro K r Q hK s a w hv h hf he; simp [evalC] at he
def resM (a : Act) : ResultVar → Sem Value
  | .tmp t => pure (a.tmps.getD t undef)
  | .cell c t => do loadVar t (← asAddr (a.tmps.getD c undef))
theorem resSlots_run (ok : EnvOk w0.tr P E) {hv : Hv} {s : St} {a : Act} {w : World} (h : Rel w0 S0 hv s a w) : ∀ (rs : List ResultVar) (l : List Slot), resSlots E s rs = some l →
    ∃ vs : List Value, (rs.mapM (resM a)).run P w = .ok vs w ∧ All2 (SlotRep w (All S0 hv s.st) hv) l vs
  | [], l, he => by
    simp only [resSlots, Option.some.injEq] at he
    subst he
    exact ⟨[], rfl, trivial⟩
  | .tmp t :: r, l, he => by
    simp only [resSlots] at he
    split at he
    · rename_i sl hsl
      split at he
      · rename_i m hm
        injection he with he
        subst he
        obtain ⟨vs, h1, h2⟩ := resSlots_run ok h r m hm
        obtain ⟨v, g1, g2⟩ := h.tmps.get _ _ hsl
        have g1' : a.tmps[t]? = some v := by simpa using g1
        refine ⟨v :: vs, ?_, g2, h2⟩
        have hr : (resM a (.tmp t)).run P w = .ok v w := by simp [resM, Array.getD_eq_getD_getElem?, g1']
        rw [List.mapM_cons]
        simp only [Sem.run_bind, hr, Sem.run_pure, Result.andThen_ok, h1]
      · cases he
    · cases he
  | .cell c t :: r, l, he => by
    simp only [resSlots] at he
    split at he
    · rename_i av hav
      split at he
      · rename_i sl hsl
        split at he
        · rename_i m hm
          injection he with he
          subst he
          obtain ⟨vs, h1, h2⟩ := resSlots_run ok h r m hm
          obtain ⟨v, g1, g2⟩ := h.tmps.get _ _ hav
          have g1' : a.tmps[c]? = some v := by simpa using g1
          obtain ⟨b, off, u, rfl, g3, g4⟩ := loadE_loads (P := P) ok h g2 hsl
          refine ⟨u :: vs, ?_, g4, h2⟩
          have hr : (resM a (.cell c t)).run P w = .ok u w := by simp [resM, Array.getD_eq_getD_getElem?, g1', asAddr, g3]
          rw [List.mapM_cons]
          simp only [Sem.run_bind, hr, Sem.run_pure, Result.andThen_ok, h1]
        · cases he
      · cases he
    · cases he
def rowsOf : (outs : List OT) → OTup outs → List Ob
  | [], _ => []
  | .pure _ :: r, x => rowsOf r x.2
  | .fresh t :: r, x => .row t x.1 :: rowsOf r x.2
  | .deep d :: r, x => .deep d x.1 :: rowsOf r x.2
theorem rowsOf_length : ∀ (outs : List OT) (r : OTup outs), (rowsOf outs r).length = freshes outs
  | [], _ => rfl
  | .pure _ :: r, x => rowsOf_length r x.2
  | .fresh _ :: r, x => by simp [rowsOf, freshes, rowsOf_length r x.2]
  | .deep _ :: r, x => by simp [rowsOf, freshes, rowsOf_length r x.2]
theorem get_rowsOf : ∀ (outs : List OT) (r : OTup outs) (j : Nat), (resStore outs r 0 []).get j = (rowsOf outs r)[j]?
  | [], _, j => by simp [resStore, rowsOf, Store.get]
  | .pure t :: r, x, j => get_rowsOf r x.2 j
  | .fresh t :: r, x, j => by
    simp only [resStore, rowsOf]
    rw [get_resStore]
    cases j with
    | zero => rw [if_neg (by omega), get_put]; simp
    | succ j =>
      rw [List.getElem?_cons_succ, ← get_rowsOf r x.2 j]
      by_cases h : j < freshes r
      · rw [if_pos (by omega), show j + 1 - (0 + 1) = j by omega]
      · rw [if_neg (by omega), get_put, if_neg (by omega), get_rowsOf]
        rw [List.getElem?_eq_none (by rw [rowsOf_length]; omega)]
        rfl
  | .deep t :: r, x, j => by
    simp only [resStore, rowsOf]
    rw [get_resStore]
    cases j with
    | zero => rw [if_neg (by omega), get_put]; simp
    | succ j =>
      rw [List.getElem?_cons_succ, ← get_rowsOf r x.2 j]
      by_cases h : j < freshes r
      · rw [if_pos (by omega), show j + 1 - (0 + 1) = j by omega]
      · rw [if_neg (by omega), get_put, if_neg (by omega), get_rowsOf]
        rw [List.getElem?_eq_none (by rw [rowsOf_length]; omega)]
        rfl
def ftOf (hv : Hv) : Option Nat → List Nat
  | some k => hv.ft k
  | none => []
theorem castD_ob {d d' : DT} (h : d = d') (x : d.den) : Ob.deep d' (castD h x) = .deep d x := by subst h; rfl
theorem deepGet_get {st : Store} {d : DT} {k : Nat} {x : d.den} (h : deepGet st d k = some x) : st.get k = some (.deep d x) := by
  unfold deepGet at h
  split at h
  · rename_i d' y hg
    split at h
    · rename_i e
      injection h with h
      subst h
      rw [castD_ob, hg]
    · cases h
  · cases h
theorem deep_ptr {hv : Hv} {st : Store} {w : World} (h : StRel w S0 hv st) {d : DT} {k : Nat} {x : d.den} (hg : st.get k = some (.deep d x)) (hb : d.isBox = true) {u : Value} (hu : hv k = some u) : ∃ b, u = .pointer (some ⟨b, 0, none⟩) := by
  cases d with
  | box d =>
    obtain ⟨b, vs, ty, F', h1, _⟩ := (h.deep k _ x u hg hu).1
    injection h1 with h1
    exact ⟨b, h1⟩
  | _ => cases hb
theorem deepAs_rep {hv : Hv} {st : Store} {w : World} (h : StRel w S0 hv st) {d : DT} {sl : Slot} {v : Value} (hr : SlotRep w (All S0 hv st) hv sl v) {x : d.den} (hx : deepAs st d sl = some x) :
    ∃ k, freshKey sl = some k ∧ st.get k = some (.deep d x) ∧ hv k = some v ∧ isCell v := by
  unfold deepAs at hx
  split at hx
  · rename_i k
    cases hb : d.isBox with
    | true => rw [hb] at hx; cases hx
    | false =>
      rw [hb] at hx
      exact ⟨k, rfl, deepGet_get hx, hr.1, hr.2⟩
  · rename_i k
    cases hb : d.isBox with
    | false => rw [hb] at hx; cases hx
    | true =>
      rw [hb] at hx
      have hg := deepGet_get hx
      obtain ⟨u, hu, _⟩ := h.objs _ _ hg
      obtain ⟨b, rfl⟩ := deep_ptr h hg hb hu
      have := ref_ptr (w := w) (S := All S0 hv st) hr hu fun a n c e => by cases e
      subst this
      exact ⟨k, rfl, hg, hu, trivial⟩
  · cases hx
theorem ptr_name {hv hv' : Hv} {st : Store} {w : World} (h : StRel w S0 hv st) {d : DT} {k j : Nat} {x : d.den} (hg : st.get k = some (.deep d x)) {v : Value} (hu : hv k = some v) (hc : isCell v) (hj : hv' j = some v) {T : Nat → Prop} {w' : World} : AVRep w' T hv' (d.ptr j) v := by
  unfold DT.ptr
  cases hb : d.isBox with
  | false => exact ⟨hj, hc⟩
  | true =>
    obtain ⟨b, rfl⟩ := deep_ptr h hg hb hu
    exact .inl ⟨b, hj, rfl⟩
theorem freshAs_rep {hv : Hv} {st : Store} {w : World} (h : StRel w S0 hv st) {e : Ty} {sl : Slot} {v : Value} (hr : SlotRep w (All S0 hv st) hv sl v) {xs : List e.den} (hx : freshAs st e sl = some xs) :
    isCell v ∧ ObRep w (All S0 hv st) hv v (.row e xs) ∧ ∀ b, blk (.row e xs) v = some b → ∃ k ob u, freshKey sl = some k ∧ st.get k = some ob ∧ hv k = some u ∧ Bk (hv.ft k) ob u b := by
  unfold freshAs at hx
  split at hx
  · rename_i k
    have hg := wrow_get hx
    obtain ⟨u, h1, h2⟩ := h.objs _ _ hg
    obtain rfl : v = u := Option.some.inj (hr.1.symm.trans h1)
    exact ⟨hr.2, h2, fun b hb => ⟨k, _, _, rfl, hg, h1, hb⟩⟩
  · rename_i k sz lo n
    split at hx
    · rename_i hsz
      subst hsz
      split at hx
      · rename_i ys hys
        injection hx with hx
        subst hx
        have hg := wrow_get hys
        obtain ⟨A, len, cap, A', cap', hk, q1, q2, q3, q4, q5, rfl⟩ := hr
        obtain ⟨vk, hk1, hob⟩ := h.objs _ _ hg
        rw [hk1] at hk
        injection hk with hk
        subst hk
        have hlen : len = ys.length := by
          rcases hob with ⟨B, h', rfl⟩ | ⟨b, off, cap1, vs, ty, h', _⟩
          · injection h' with _ h' _
          · injection h' with _ h' _
        subst hlen
        have hzl : ((ys.drop lo).take n).length = n := by simp; omega
        refine ⟨trivial, ?_, fun b hb => ?_⟩
        · rcases Nat.eq_zero_or_pos cap' with h0 | h0
          · refine .inl ⟨A', ?_, ?_⟩
            · rw [h0, show n = 0 by omega]
            · exact List.eq_nil_of_length_eq_zero (by rw [hzl]; omega)
          · rcases hob with ⟨B, h', rfl⟩ | ⟨b', off, cap1, vs, ty, h', g1, g2, g3, g4, g5⟩
            · injection h' with _ _ h'
              omega
            · injection h' with hA _ hcc
              subst hA hcc
              have := q5 h0 b' off rfl
              subst this
              refine .inr ⟨b', off + lo * e.size, cap', vs, ty, by rw [hzl], h0, by rw [hzl]; omega, g3, ?_, ?_⟩
              · have : lo * e.size + cap' * e.size = cap * e.size := by rw [← Nat.add_mul]; congr 1; omega
                omega
              · intro j z hz
                have hj : j < n := by
                  have := (List.getElem?_eq_some_iff.1 hz).1
                  omega
                rw [List.getElem?_take, if_pos hj, List.getElem?_drop] at hz
                obtain ⟨es, p1, p2⟩ := g5 _ z hz
                refine ⟨es, p1, fun c d hd => ?_⟩
                have := p2 c d hd
                rw [Nat.add_mul] at this
                rw [← this]
                congr 1
                omega
        · have hc : 0 < cap' := by
            rcases Nat.eq_zero_or_pos cap' with h0 | h0
            · subst h0; cases A' <;> simp [blk] at hb
            · exact h0
          rcases hob with ⟨B, h', rfl⟩ | ⟨b', off, cap1, vs, ty, h', g1, _⟩
          · injection h' with _ _ h'
            omega
          · injection h' with hA _ hcc
            subst hA hcc
            have := q5 hc b' off rfl
            subst this
            simp only [blk, hc, if_true, Option.some.injEq] at hb
            subst hb
            exact ⟨k, _, _, rfl, hg, hk1, by simp [Bk, blk, g1]⟩
      · cases hx
    · cases hx
  · injection hx with hx
    subst hx
    have hr : v = .slice none 0 0 := hr
    subst hr
    exact ⟨trivial, .inl ⟨none, rfl, rfl⟩, fun b hb => by simp [blk] at hb⟩
  · cases hx
theorem outs_rep {hv : Hv} {st : Store} {w : World} (h : StRel w S0 hv st) : ∀ (outs : List OT) (l : List Slot) (vs : List Value) (r : OTup outs), All2 (SlotRep w (All S0 hv st) hv) l vs → outsAs st outs l = some r →
    ∃ fv : List (Value × Option Nat), All2 (fun ob (p : Value × Option Nat) => isCell p.1 ∧ ObRep w (All S0 hv st) hv p.1 ob ∧ (∀ b, Bk (ftOf hv p.2) ob p.1 b → ∃ k ob' u, p.2 = some k ∧ st.get k = some ob' ∧ hv k = some u ∧ Bk (hv.ft k) ob' u b) ∧ (ob.flat = true ∨ ∃ k, p.2 = some k ∧ st.get k = some ob ∧ hv k = some p.1)) (rowsOf outs r) fv ∧
      fv.filterMap (fun p : Value × Option Nat => p.2) = freshKeys outs l ∧
      ∀ (T : Nat → Prop) (hv2 : Hv) (d : Nat), (∀ b, T b → All S0 hv st b) → Free hv st (pureRows outs l) T → (∀ j p, fv[j]? = some p → hv2 (d + j) = some p.1) → All2 (AVRep w T hv2) (resAVs outs r d) vs
  | [], [], [], r, _, he => ⟨[], trivial, rfl, fun _ _ _ _ _ _ => trivial⟩
  | [], [], _ :: _, _, h, _ => h.elim
  | .pure t :: outs, sl :: l, v :: vs, r, hr, he => by
    simp only [outsAs] at he
    split at he
    · rename_i x hx
      split at he
      · rename_i y hy
        injection he with he
        subst he
        obtain ⟨fv, h1, h2, h3⟩ := outs_rep h outs l vs y hr.2 hy
        refine ⟨fv, h1, h2, fun T hv2 d hT hf hh => ⟨?_, h3 T hv2 d hT (hf.sub fun k hk => by simp [pureRows, hk]) hh⟩⟩
        exact slot_rep h hr.1 hx hT (hf.sub fun k hk => by simp [pureRows, hk])
      · cases he
    · cases he
  | .fresh t :: outs, sl :: l, v :: vs, r, hr, he => by
    simp only [outsAs] at he
    split at he
    · rename_i x hx
      split at he
      · rename_i y hy
        injection he with he
        subst he
        obtain ⟨fv, h1, h2, h3⟩ := outs_rep h outs l vs y hr.2 hy
        obtain ⟨g1, g2, g3⟩ := freshAs_rep h hr.1 hx
        refine ⟨(v, freshKey sl) :: fv, ⟨⟨g1, g2, g3, .inl rfl⟩, h1⟩, ?_, fun T hv2 d hT hf hh => ⟨⟨?_, g1⟩, h3 T hv2 (d + 1) hT (hf.sub fun k hk => by simpa [pureRows] using hk) fun j p hj => ?_⟩⟩
        · simp only [freshKeys, ← h2]
          cases hk : freshKey sl with
          | none => simp [List.filterMap_cons, hk]
          | some k => simp [List.filterMap_cons, hk]
        · have := hh 0 (v, freshKey sl) rfl
          simpa using this
        · have := hh (j + 1) p (by simpa using hj)
          rw [show d + 1 + j = d + (j + 1) by omega]
          exact this
      · cases he
    · cases he
  | .deep t :: outs, sl :: l, v :: vs, r, hr, he => by
    simp only [outsAs] at he
    split at he
    · rename_i x hx
      split at he
      · rename_i y hy
        injection he with he
        subst he
        obtain ⟨fv, h1, h2, h3⟩ := outs_rep h outs l vs y hr.2 hy
        obtain ⟨k, g1, g2, g3, g4⟩ := deepAs_rep h hr.1 hx
        refine ⟨(v, some k) :: fv, ⟨⟨g4, g4, fun b hb => ⟨k, _, v, rfl, g2, g3, hb⟩, .inr ⟨k, rfl, g2, g3⟩⟩, h1⟩, ?_, fun T hv2 d hT hf hh => ⟨?_, h3 T hv2 (d + 1) hT (hf.sub fun k hk => by simpa [pureRows] using hk) fun j p hj => ?_⟩⟩
        · simp only [freshKeys, ← h2, g1]
          rfl
        · have := hh 0 (v, some k) rfl
          exact ptr_name h g2 g3 g4 (by simpa using this)
        · have := hh (j + 1) p (by simpa using hj)
          rw [show d + 1 + j = d + (j + 1) by omega]
          exact this
      · cases he
    · cases he
  | .pure _ :: _, _ :: _, [], _, h, _ => h.elim
  | .fresh _ :: _, _ :: _, [], _, h, _ => h.elim
  | .deep _ :: _, _ :: _, [], _, h, _ => h.elim
  | _ :: _, [], _, _, _, he => by simp [outsAs] at he
  | [], _ :: _, _, _, _, he => by simp [outsAs] at he
theorem nodupB_sound : ∀ {l : List Nat}, nodupB l = true → l.Nodup
  | [], _ => List.nodup_nil
  | k :: r, h => by
    simp only [nodupB, Bool.and_eq_true, Bool.not_eq_true', List.contains_eq_mem, decide_eq_false_iff_not] at h
    exact List.nodup_cons.2 ⟨h.1, nodupB_sound h.2⟩
theorem filterMap_inj : ∀ {l : List (Value × Option Nat)} {i j : Nat} {p q : Value × Option Nat} {k : Nat}, (l.filterMap (fun p : Value × Option Nat => p.2)).Nodup → l[i]? = some p → l[j]? = some q → p.2 = some k → q.2 = some k → i = j
  | [], i, j, p, q, k, _, h, _, _, _ => by simp at h
  | x :: l, 0, 0, p, q, k, _, _, _, _, _ => rfl
  | x :: l, 0, j + 1, p, q, k, hn, hi, hj, hp, hq => by
    simp only [List.getElem?_cons_zero, Option.some.injEq] at hi
    subst hi
    simp only [List.getElem?_cons_succ] at hj
    simp only [List.filterMap_cons, hp] at hn
    exact absurd (List.mem_filterMap.2 ⟨q, List.mem_of_getElem? hj, hq⟩) (List.nodup_cons.1 hn).1
  | x :: l, i + 1, 0, p, q, k, hn, hi, hj, hp, hq => by
    simp only [List.getElem?_cons_zero, Option.some.injEq] at hj
    subst hj
    simp only [List.getElem?_cons_succ] at hi
    simp only [List.filterMap_cons, hq] at hn
    exact absurd (List.mem_filterMap.2 ⟨p, List.mem_of_getElem? hi, hp⟩) (List.nodup_cons.1 hn).1
  | x :: l, i + 1, j + 1, p, q, k, hn, hi, hj, hp, hq => by
    simp only [List.getElem?_cons_succ] at hi hj
    have hn' : (l.filterMap (fun p : Value × Option Nat => p.2)).Nodup := by
      simp only [List.filterMap_cons] at hn
      split at hn
      · exact hn
      · exact (List.nodup_cons.1 hn).2
    rw [filterMap_inj hn' hi hj hp hq]
theorem rowsOf_kind : ∀ (outs : List OT) (r : OTup outs), ∀ o ∈ rowsOf outs r, (∃ t xs, o = .row t xs) ∨ ∃ d x, o = .deep d x
  | [], _, o, ho => by cases ho
  | .pure t :: outs, r, o, ho => rowsOf_kind outs r.2 o ho
  | .fresh t :: outs, r, o, ho => by
    rcases List.mem_cons.1 ho with rfl | ho
    · exact .inl ⟨_, _, rfl⟩
    · exact rowsOf_kind outs r.2 o ho
  | .deep t :: outs, r, o, ho => by
    rcases List.mem_cons.1 ho with rfl | ho
    · exact .inr ⟨_, _, rfl⟩
    · exact rowsOf_kind outs r.2 o ho
theorem finish_sound (ok : EnvOk w0.tr P E) {hv : Hv} {s : St} {a : Act} {w : World} (h : Rel w0 S0 hv s a w) {outs : List OT} {fn : Func} {r : OTup outs} (he : finish E outs fn.results.toList s = some r) :
    ∃ v, (results fn a.tmps).run P w = .ok v w ∧ ResRep w0.n w S0 outs r v := by
  unfold finish at he
  split at he
  · rename_i l hl
    split at he
    · rename_i hc
      simp only [Bool.and_eq_true] at hc
      obtain ⟨c1, c2⟩ := hc
      have hnd := nodupB_sound c1
      obtain ⟨vs, h1, h2⟩ := resSlots_run (P := P) ok h _ _ hl
      obtain ⟨fv, g1, g2, g3⟩ := outs_rep h.st outs l vs r h2 he
      let hvR : Hv := ⟨fun j => (fv[j]?).map (·.1), fun j => match fv[j]? with | some p => ftOf hv p.2 | none => []⟩
      have hvRft : ∀ (j : Nat) (p : Value × Option Nat), fv[j]? = some p → hvR.ft j = ftOf hv p.2 := fun j p hp => by simp only [hvR, hp]
      have hflen := g1.length
      have hown : ∀ b, Own hvR (resStore outs r 0 []) b → ∃ (j : Nat) (p : Value × Option Nat) (k : Nat) (ob : Ob) (u : Value), fv[j]? = some p ∧ p.2 = some k ∧ s.st.get k = some ob ∧ hv k = some u ∧ Bk (hv.ft k) ob u b := by
        rintro b ⟨j, ob, v, q1, q2, q3⟩
        rw [get_rowsOf] at q1
        obtain ⟨p, p1, p2⟩ := g1.get j ob q1
        rw [hvRft j p p1] at q3
        simp only [hvR, p1, Option.map_some, Option.some.injEq] at q2
        subst q2
        obtain ⟨k, ob', u, q4, q5, q6, q7⟩ := p2.2.2.1 b q3
        exact ⟨j, p, k, ob', u, p1, q4, q5, q6, q7⟩
      have hsub : ∀ b, All S0 hvR (resStore outs r 0 []) b → All S0 hv s.st b := fun b hb => hb.imp id fun hb => by
        obtain ⟨j, p, k, ob, u, _, _, q5, q6, q7⟩ := hown b hb
        exact ⟨k, ob, u, q5, q6, q7⟩
      have hs : StepOk w (All S0 hv s.st) w (All S0 hvR (resStore outs r 0 [])) := (StepOk.refl _ _).sub hsub
      have hfree : Free hv s.st (pureRows outs l) (All S0 hvR (resStore outs r 0 [])) := by
        intro k hk e xs v b q1 q2 q3 hb
        rcases hb with hb | hb
        · exact h.st.out b ⟨k, _, _, q1, q2, q3⟩ hb
        · obtain ⟨j, p, k', ob, u, p1, p2, q5, q6, q7⟩ := hown b hb
          have hkk := h.st.inj _ _ _ _ _ _ _ q1 q2 q3 q5 q6 q7
          subst hkk
          simp only [disjoint, List.all_eq_true, Bool.not_eq_true', List.contains_eq_mem, decide_eq_false_iff_not] at c2
          exact c2 k (by rw [← g2]; exact List.mem_filterMap.2 ⟨p, List.mem_of_getElem? p1, p2⟩) hk
      refine ⟨retOf vs, ?_, hvR, vs, ⟨fun j ob hj => ?_, fun j ob v j' ob' v' b q1 q2 q3 q4 q5 q6 => ?_, fun b hb hb0 => ?_, fun k d x v hk => ?_, fun k j i hk => ?_⟩, g3 _ hvR 0 hsub hfree fun j p hj => by simp [hvR, hj], rfl, fun b hb => ?_⟩
      · have hres : results fn a.tmps = (do let vs ← fn.results.mapM (resM a); pure (if h : vs.size = 1 then vs[0] else .tuple vs)) := rfl
        rw [hres, Sem.run_bind, Array.mapM_eq_mapM_toList, Sem.run_map, h1]
        simp only [Result.andThen_ok, Sem.run_pure]
        congr 1
        match vs with
        | [] => rfl
        | [v] => rfl
        | v :: u :: m => rfl
      · rw [get_rowsOf] at hj
        obtain ⟨p, p1, p2⟩ := g1.get j ob hj
        refine ⟨p.1, by simp [hvR, p1], ?_⟩
        rcases rowsOf_kind outs r ob (List.mem_of_getElem? hj) with ⟨t, xs, rfl⟩ | ⟨d, x, rfl⟩
        rotate_left
        · exact p2.2.1
        rcases p2.2.1 with q | ⟨b, off, cap, cells, ty, e1, q1, q2, q3, q4, q5⟩
        · exact .inl q
        · refine .inr ⟨b, off, cap, cells, ty, e1, q1, q2, q3, q4, fun i x hx => ?_⟩
          obtain ⟨es, z1, z2⟩ := q5 i x hx
          exact ⟨es, z1.step hs, z2⟩
      · rw [get_rowsOf] at q1 q4
        obtain ⟨p, p1, p2⟩ := g1.get j ob q1
        obtain ⟨p', p1', p2'⟩ := g1.get j' ob' q4
        rw [hvRft j p p1] at q3
        rw [hvRft j' p' p1'] at q6
        simp only [hvR, p1, Option.map_some, Option.some.injEq] at q2
        simp only [hvR, p1', Option.map_some, Option.some.injEq] at q5
        subst q2 q5
        obtain ⟨k, ob1, u1, z1, z2, z3, z4⟩ := p2.2.2.1 b q3
        obtain ⟨k', ob2, u2, y1, y2, y3, y4⟩ := p2'.2.2.1 b q6
        have hkk := h.st.inj _ _ _ _ _ _ _ z2 z3 z4 y2 y3 y4
        subst hkk
        exact filterMap_inj (by rw [g2]; exact hnd) p1 p1' z1 y1
      · obtain ⟨j, p, k, ob, u, _, _, q5, q6, q7⟩ := hown b hb
        exact h.st.out b ⟨k, ob, u, q5, q6, q7⟩ hb0
      · intro hk2
        rw [get_rowsOf] at hk
        obtain ⟨p, p1, p2⟩ := g1.get k _ hk
        rw [hvRft k p p1]
        simp only [hvR, p1, Option.map_some, Option.some.injEq] at hk2
        subst hk2
        rcases p2.2.2.2 with q | ⟨k', q1, q2, q3⟩
        · cases q
        · rw [q1]
          obtain ⟨z1, z2⟩ := h.st.deep k' d x _ q2 q3
          exact ⟨z1.step hs fun _ _ => rfl, z2⟩
      · rw [get_rowsOf] at hk
        rcases rowsOf_kind _ _ _ (List.mem_of_getElem? hk) with ⟨_, _, h'⟩ | ⟨_, _, h'⟩ <;> cases h'
      · obtain ⟨j, p, k, ob, u, _, _, q5, q6, q7⟩ := hown b hb
        exact h.base b ⟨k, ob, u, q5, q6, q7⟩
    · cases he
  · cases he
theorem args_slots {S : Nat → Prop} {w : World} {hv : Hv} : ∀ (ts : List Ty) (x : Tup ts) (vs : List Value), ArgsRep w S ts x vs → All2 (SlotRep w S hv) (argSlots ts x) vs
  | [], _, [], _ => trivial
  | [], _, _ :: _, h => h.elim
  | t :: ts, x, v :: vs, h => ⟨h.1, args_slots ts x.2 vs h.2⟩
  | _ :: _, _, [], h => h.elim
theorem All2.replicate {α β : Type} {R' : α → β → Prop} {a : α} {b : β} (h : R' a b) : ∀ n, All2 R' (List.replicate n a) (List.replicate n b)
  | 0 => trivial
  | n + 1 => by simp only [List.replicate_succ]; exact ⟨h, All2.replicate h n⟩
theorem argSlots_length : ∀ (ts : List Ty) (x : Tup ts), (argSlots ts x).length = ts.length
  | [], _ => rfl
  | t :: ts, x => by simp [argSlots, argSlots_length ts x.2]
theorem pure_of_eval {tr : Bool} (ok : EnvOk tr P E) (hmix : P.follows .mixedOrders = true) {f : FuncId} {fn : Func} (hf : P.funcs[f]? = some fn) {c : Code} (hb : fn.body = some c) {sp : Spec}
    (he : ∀ x r, sp.F x = some r → ∃ fuel, evalBody E fuel fn c sp.ins sp.outs x = some r) : Pure tr P f sp := by
  intro x r hx w S vals hS hargs
  obtain ⟨fuel, hev⟩ := he x r hx
  have hsl := args_slots (hv := Hv.empty) sp.ins x vals hargs
  have hlen : vals.length = sp.ins.length := by rw [← argSlots_length sp.ins x]; exact hsl.length.symm
  refine calls_of_wp hf hb ?_
  have hown : ∀ b, ¬ Own Hv.empty ([] : Store) b := by
    rintro b ⟨k, o, v, h1, _⟩
    cases h1
  have hall : All S Hv.empty ([] : Store) = S := funext fun b => propext ⟨fun h => h.resolve_right (hown b), .inl⟩
  have hrel : Rel (Base.of tr w S) S Hv.empty (startSt sp.ins x fn.ntmps) { tmps := vals.toArray ++ Array.replicate (fn.ntmps - vals.toArray.size) undef, defers := [] } w := by
    refine ⟨⟨(fun k o hk => by cases hk), (fun k o v k' o' v' b hk => by cases hk), fun b hb => absurd hb (hown b), (fun k d x v hk => by cases hk), (fun k j i hk => by cases hk)⟩, ?_, fun b hb => absurd hb (hown b), hS, Below.refl _ _ _, rfl, (fun k sl hk => by cases hk), (by show StepOk w S w (All S Hv.empty []); rw [hall]; exact StepOk.refl _ _), fun _ _ => rfl⟩
    show All2 (SlotRep w (All S Hv.empty []) Hv.empty) _ _
    rw [hall]
    simp only [startSt, Array.toList_append, Array.toList_replicate, List.size_toArray, hlen]
    exact hsl.append (All2.replicate (show SlotRep w S _ (.one .dead) undef from trivial) _)
  refine evalC_sound (w0 := Base.of tr w S) ok hmix fuel c _ r _ ?_ _ _ w _ hrel (fun _ _ => rfl) hev
  intro e s a w' hv h hf' hk
  cases e with
  | exit id => cases hk
  | normal =>
    obtain ⟨v, h1, h2⟩ := finish_sound (w0 := Base.of tr w S) ok h hk
    exact ⟨h.dfr, v, h1, v, rfl, h2, h.keep⟩
  | ret =>
    obtain ⟨v, h1, h2⟩ := finish_sound (w0 := Base.of tr w S) ok h hk
    exact ⟨h.dfr, v, h1, v, rfl, h2, h.keep⟩
end Go.Ev
end
section
set_option linter.unusedVariables false
set_option linter.unusedSimpArgs false
namespace Go.Ev
open Go.RowKit
variable {P : Program}
theorem sized_some' {n m : Nat} {u v : Ty} (h : sized n m u = some v) : n = m ∧ u = v := by
  unfold sized at h
  cases hb : Nat.beq n m with
  | false => rw [hb] at h; cases h
  | true => rw [hb] at h; injection h with h; exact ⟨Nat.eq_of_beq_eq_true hb, h⟩
theorem allOf_cons {g : TypeId → Option Ty} {o : Nat} {f : Field} {r : List Field} {l : List Ty} (h : allOf g o (f :: r) = some l) : ∃ a l', l = a :: l' ∧ g f.type = some a ∧ f.offset = o ∧ allOf g (o + a.size) r = some l' := by
  simp only [allOf] at h
  split at h
  · rename_i a ha
    cases hb : Nat.beq f.offset o with
    | false => rw [hb] at h; cases h
    | true =>
      rw [hb] at h
      simp only [cond_true] at h
      split at h
      · rename_i l' hl
        injection h with h
        exact ⟨a, l', h.symm, ha, Nat.eq_of_beq_eq_true hb, hl⟩
      · cases h
  · cases h
theorem keyTy_ok : ∀ (d : Nat) (T : TypeId) (u : Ty), keyTy P d T = some u → TyOk P u T ∧ u.keyed = true
  | 0, T, u, h => by cases h
  | d + 1, T, u, h => by
    simp only [keyTy] at h
    split at h
    · cases h
    · rename_i i hi
      have hs : ∀ n, i.size = n → SizeIs P T n := fun n hn => by unfold SizeIs; rw [hi]; simp [hn]
      split at h
      · rename_i k hu
        obtain ⟨h1, rfl⟩ := sized_some' h
        exact ⟨⟨hu, hs _ h1⟩, rfl⟩
      · rename_i hu
        obtain ⟨h1, rfl⟩ := sized_some' h
        exact ⟨⟨hu, hs _ h1⟩, rfl⟩
      · rename_i hu
        obtain ⟨h1, rfl⟩ := sized_some' h
        exact ⟨⟨hu, hs _ h1⟩, rfl⟩
      · rename_i fs hu
        cases hb : (P.stoodInHeld T || fs.toList.any (fun f => f.name == "_")) with
        | true => rw [hb] at h; cases h
        | false =>
          rw [hb] at h
          simp only [cond_false] at h
          split at h
          · rename_i l hl
            obtain ⟨h1, rfl⟩ := sized_some' h
            have hk : ∀ (fs : List Field) (o : Nat) (l : List Ty), allOf (keyTy P d) o fs = some l → ∀ a ∈ l, a.keyed = true := by
              intro fs
              induction fs with
              | nil => intro o l h a ha; simp only [allOf, Option.some.injEq] at h; subst h; cases ha
              | cons f r ih =>
                intro o l h a ha
                obtain ⟨b, l', rfl, g1, _, g2⟩ := allOf_cons h
                rcases List.mem_cons.1 ha with rfl | ha
                · exact (keyTy_ok d _ _ g1).2
                · exact ih _ _ g2 a ha
            have hkl := hk _ _ _ hl
            have hpr : ∀ (l : List Ty) (a : Ty), a.keyed = true → (∀ b ∈ l, b.keyed = true) → (packR a l).keyed = true := by
              intro l
              induction l with
              | nil => intro a ha _; exact ha
              | cons b r ih => intro a ha hb; simp only [packR, Ty.keyed, Bool.and_eq_true]; exact ⟨ha, ih b (hb b (by simp)) fun c hc => hb c (by simp [hc])⟩
            match l, h1, hkl with
            | [], h1, _ => exact ⟨⟨hs _ h1, fs, hu⟩, rfl⟩
            | [a], h1, hk => exact ⟨⟨hs _ h1, fs, hu⟩, hk a (by simp)⟩
            | a :: b :: r, h1, hk => exact ⟨⟨hs _ h1, fs, hu⟩, hpr (b :: r) a (hk a (by simp)) fun c hc => hk c (by simp at hc ⊢; exact .inr hc)⟩
          · cases h
      · cases h
theorem run_part {w w' : World} {S : Nat → Prop} {u : Ty} {T : TypeId} (ok : TyOk P u T) {x : u.den} {c rest : List Value} (hr : Rep w S u x c) {cs : Array Value} {off : Nat} (hc : cs.toList.drop off = c ++ rest) : (part T cs off).run P w' = .ok (mkVal u c) w' := by
  have hl := hr.length
  have hsz := ok.size
  simp only [part, Sem.run_bind, run_isAgg ok.agg, Result.andThen_ok]
  unfold mkVal
  cases hg : u.isAgg with
  | true =>
    simp only [if_true, Sem.run_bind, run_sizeOf hsz, Result.andThen_ok, Sem.run_pure]
    have : cs.extract off (off + u.size) = c.toArray := by
      rw [← Array.toArray_toList (xs := cs.extract off (off + u.size)), Array.toList_extract, List.extract_eq_take_drop, hc, Nat.add_sub_cancel_left, ← hl, List.take_left']
      rfl
    rw [this]
  | false =>
    simp only [Bool.false_eq_true, if_false]
    have h1 : ∃ v, c = [v] := by
      have : u.size = 1 := by cases u <;> first | rfl | cases hg
      rw [this] at hl
      exact List.length_eq_one_iff.1 hl
    obtain ⟨v, rfl⟩ := h1
    have : cs[off]? = some v := by
      rw [← Array.getElem?_toList, ← Nat.add_zero off, ← List.getElem?_drop, hc]
      rfl
    rw [this]
    rfl
theorem part_split {w : World} {S : Nat → Prop} {a b : Ty} {x : (Ty.pair a b).den} {cx : List Value} (h : Rep w S (.pair a b) x cx) {cs : Array Value} {off : Nat} (hc : cs.toList.drop off = cx) :
    ∃ c1 c2, Rep w S a x.1 c1 ∧ Rep w S b x.2 c2 ∧ cs.toList.drop off = c1 ++ c2 ∧ cs.toList.drop (off + a.size) = c2 := by
  obtain ⟨c1, c2, rfl, h1, h2⟩ := h
  refine ⟨c1, c2, h1, h2, hc, ?_⟩
  rw [← List.drop_drop, hc, ← h1.length, List.drop_left']
  rfl
mutual
theorem keyTy_eq {w w' : World} {S S' : Nat → Prop} : ∀ (d : Nat) (T : TypeId) (u : Ty), keyTy P d T = some u → ∀ (x y : u.den) (cx cy : List Value), Rep w S u x cx → Rep w S' u y cy → ∀ n, d ≤ n → (Op.equalIn n T (mkVal u cx) (mkVal u cy)).run P w' = .ok (keyEq u x y) w'
  | 0, T, u, h, _, _, _, _, _, _, _, _ => by cases h
  | d + 1, T, u, h, x, y, cx, cy, hx, hy, n, hn => by
    obtain ⟨m, rfl⟩ : ∃ m, n = m + 1 := ⟨n - 1, by omega⟩
    simp only [keyTy] at h
    split at h
    · cases h
    · rename_i i hi
      split at h
      · rename_i k hu
        obtain ⟨_, rfl⟩ := sized_some' h
        have hx : _ = _ := hx
        have hy : _ = _ := hy
        subst hx hy
        exact run_equalIn_int w' m T k k x y hu
      · rename_i hu
        obtain ⟨_, rfl⟩ := sized_some' h
        have hx : _ = _ := hx
        have hy : _ = _ := hy
        subst hx hy
        exact run_equalIn_bool' w' m T x y hu
      · rename_i hu
        obtain ⟨_, rfl⟩ := sized_some' h
        have hx : _ = _ := hx
        have hy : _ = _ := hy
        subst hx hy
        have := run_equalIn_string w' m T x y hu
        rw [← beq_toListBytes] at this
        exact this
      · rename_i fs hu
        cases hb : (P.stoodInHeld T || fs.toList.any (fun f => f.name == "_")) with
        | true => rw [hb] at h; cases h
        | false =>
          rw [hb] at h
          rw [Bool.or_eq_false_iff] at hb
          simp only [cond_false] at h
          split at h
          · rename_i l hl
            obtain ⟨_, rfl⟩ := sized_some' h
            have hf : P.fieldsOf T = fs := by unfold Program.fieldsOf; rw [hu]
            have hagg : (packTy l).isAgg = true := by
              match l with
              | [] => rfl
              | [_] => rfl
              | _ :: _ :: _ => rfl
            have hm : ∀ c, mkVal (packTy l) c = .agg c.toArray := fun c => by unfold mkVal; rw [hagg]; rfl
            have hnm : ∀ f ∈ fs.toList, f.name ≠ "_" := fun f hf => by
              have := List.any_eq_false.1 hb.2 f hf
              simpa using this
            rw [hm, hm, run_equalIn_struct w' m T _ _ (by rw [hf]; exact hu) hb.1, hf]
            exact fields_eq d fs.toList l hl hnm x y cx cy hx hy m (by omega)
          · cases h
      · cases h
termination_by d => (d, 0)
theorem fields_eq {w w' : World} {S S' : Nat → Prop} (d : Nat) (fs : List Field) (l : List Ty) (hl : allOf (keyTy P d) 0 fs = some l) (hnm : ∀ f ∈ fs, f.name ≠ "_") (x y : (packTy l).den) (cx cy : List Value) (hx : Rep w S (packTy l) x cx) (hy : Rep w S' (packTy l) y cy) (m : Nat) (hm : d ≤ m) :
    (Op.eqFields m cx.toArray cy.toArray fs).run P w' = .ok (keyEq (packTy l) x y) w' := by
  have main : ∀ (fs : List Field) (f : Field) (o : Nat) (l : List Ty) (a : Ty), allOf (keyTy P d) o (f :: fs) = some (a :: l) → (∀ g ∈ f :: fs, g.name ≠ "_") → ∀ (x y : (packR a l).den) (ex ey : List Value), Rep w S (packR a l) x ex → Rep w S' (packR a l) y ey →
      cx.toArray.toList.drop o = ex → cy.toArray.toList.drop o = ey → (Op.eqFields m cx.toArray cy.toArray (f :: fs)).run P w' = .ok (keyEq (packR a l) x y) w' := by
    intro fs
    induction fs with
    | nil =>
      intro f o l a hl hn x y ex ey hx hy h1 h2
      obtain ⟨a', l', hh, g1, g2, g3⟩ := allOf_cons hl
      injection hh with e1 e2
      subst e1 e2
      simp only [allOf, Option.some.injEq] at g3
      subst g3
      have ok := (keyTy_ok d _ _ g1).1
      have hn1 := hn f (by simp)
      simp only [Op.eqFields, Sem.run_ite, Sem.run_bind]
      rw [if_pos hn1, g2, run_part ok (rest := []) hx (by rw [h1, List.append_nil]), Result.andThen_ok, run_part ok (rest := []) hy (by rw [h2, List.append_nil]), Result.andThen_ok, keyTy_eq d _ _ g1 x y ex ey hx hy m hm, Result.andThen_ok]
      show _ = Result.ok (keyEq a x y) w'
      cases keyEq a x y <;> rfl
    | cons f2 fs ih =>
      intro f o l a hl hn x y ex ey hx hy h1 h2
      obtain ⟨a', l', hh, g1, g2, g3⟩ := allOf_cons hl
      injection hh with e1 e2
      subst e1 e2
      obtain ⟨b, l2, rfl, k1, k2, k3⟩ := allOf_cons g3
      have ok := (keyTy_ok d _ _ g1).1
      have hn1 := hn f (by simp)
      obtain ⟨c1, c2, q1, q2, q3, q4⟩ := part_split (a := a) (b := packR b l2) hx h1
      obtain ⟨d1, d2, r1, r2, r3, r4⟩ := part_split (a := a) (b := packR b l2) hy h2
      have ih' := ih f2 (o + a.size) l2 b g3 (fun g hg => hn g (List.mem_cons_of_mem _ hg)) x.2 y.2 c2 d2 q2 r2 q4 r4
      have hkey : (packR a (b :: l2)).keyed = true := by
        have hk : ∀ (fs : List Field) (o : Nat) (l : List Ty), allOf (keyTy P d) o fs = some l → ∀ a ∈ l, a.keyed = true := by
          intro fs
          induction fs with
          | nil => intro o l h a ha; simp only [allOf, Option.some.injEq] at h; subst h; cases ha
          | cons f r ih =>
            intro o l h a ha
            obtain ⟨b, l', rfl, g1, _, g2⟩ := allOf_cons h
            rcases List.mem_cons.1 ha with rfl | ha
            · exact (keyTy_ok d _ _ g1).2
            · exact ih _ _ g2 a ha
        have hpr : ∀ (l : List Ty) (a : Ty), (∀ b ∈ a :: l, b.keyed = true) → (packR a l).keyed = true := by
          intro l
          induction l with
          | nil => intro a hb; exact hb a (by simp)
          | cons b r ih => intro a hb; simp only [packR, Ty.keyed, Bool.and_eq_true]; exact ⟨hb a (by simp), ih b fun c hc => hb c (List.mem_cons_of_mem _ hc)⟩
        exact hpr (b :: l2) a (hk _ _ _ hl)
      have hsplit : keyEq (packR a (b :: l2)) x y = (keyEq a x.1 y.1 && keyEq (packR b l2) x.2 y.2) := keyEq_pair (a := a) (b := packR b l2) x y hkey
      rw [hsplit]
      unfold Op.eqFields
      simp only [Sem.run_ite, Sem.run_bind]
      rw [if_pos hn1, g2, run_part ok (rest := c2) q1 q3, Result.andThen_ok, run_part ok (rest := d2) r1 r3, Result.andThen_ok, keyTy_eq d _ _ g1 x.1 y.1 c1 d1 q1 r1 m hm, Result.andThen_ok]
      cases keyEq a x.1 y.1 with
      | false => rfl
      | true =>
        simp only [Bool.not_true, Bool.false_eq_true, if_false, Bool.true_and]
        exact ih'
  match fs, l, hl, x, y, hx, hy with
  | [], l, hl, x, y, hx, hy =>
    simp only [allOf, Option.some.injEq] at hl
    subst hl
    rfl
  | f :: fs, l, hl, x, y, hx, hy =>
    obtain ⟨a, l', rfl, _⟩ := allOf_cons hl
    match l', x, y, hx, hy, hl with
    | [], x, y, hx, hy, hl => exact main fs f 0 [] a hl hnm x y cx cy hx hy (by simp) (by simp)
    | b :: r, x, y, hx, hy, hl => exact main fs f 0 (b :: r) a hl hnm x y cx cy hx hy (by simp) (by simp)
termination_by (d, 1)
end
def chkFields (e : Bool) (n : Nat) (cs : Array Value) : List Field → Sem Unit
  | [] => pure ()
  | f :: fs => do
    if f.name ≠ "_" then
      let v ← part f.type cs f.offset
      Instr.checkKey e n f.type v
    chkFields e n cs fs
theorem run_checkKey_struct {w : World} {e : Bool} {n : Nat} {T : TypeId} {fs : Array Field} {cs : Array Value} (hu : P.underlying T = some (.struct fs)) : (Instr.checkKey e (n + 1) T (.agg cs)).run P w = (chkFields e n cs fs.toList).run P w := by
  simp only [Instr.checkKey, Sem.run_bind, run_underlying hu, Result.andThen_ok]
  rw [← Array.forIn_toList]
  generalize fs.toList = l
  clear hu
  induction l generalizing w with
  | nil => simp [chkFields]
  | cons f fs ih =>
    simp only [List.forIn_cons, chkFields, Sem.run_bind, Sem.run_ite]
    split
    · generalize (part f.type cs f.offset).run P w = r1
      cases r1 with
      | ok a w1 =>
        simp only [Result.andThen_ok]
        generalize (Instr.checkKey e n f.type a).run P w1 = r2
        cases r2 with
        | ok b w2 =>
          simp only [Result.andThen_ok, Sem.run_pure]
          exact ih
        | halt x w2 => simp [Result.andThen]
      | halt x w1 => simp [Result.andThen]
    · simp only [Sem.run_pure, Result.andThen_ok]
      exact ih
mutual
theorem keyTy_chk {w w' : World} {S : Nat → Prop} {e : Bool} : ∀ (d : Nat) (T : TypeId) (u : Ty), keyTy P d T = some u → ∀ (x : u.den) (cx : List Value), Rep w S u x cx → ∀ n, d ≤ n → (Instr.checkKey e n T (mkVal u cx)).run P w' = .ok () w'
  | 0, T, u, h, _, _, _, _, _ => by cases h
  | d + 1, T, u, h, x, cx, hx, n, hn => by
    obtain ⟨m, rfl⟩ : ∃ m, n = m + 1 := ⟨n - 1, by omega⟩
    simp only [keyTy] at h
    split at h
    · cases h
    · rename_i i hi
      split at h
      · rename_i k hu
        obtain ⟨_, rfl⟩ := sized_some' h
        have hx : _ = _ := hx
        subst hx
        simp only [Instr.checkKey, Sem.run_bind, run_underlying hu, Result.andThen_ok]
        rfl
      · rename_i hu
        obtain ⟨_, rfl⟩ := sized_some' h
        have hx : _ = _ := hx
        subst hx
        simp only [Instr.checkKey, Sem.run_bind, run_underlying hu, Result.andThen_ok]
        rfl
      · rename_i hu
        obtain ⟨_, rfl⟩ := sized_some' h
        have hx : _ = _ := hx
        subst hx
        simp only [Instr.checkKey, Sem.run_bind, run_underlying hu, Result.andThen_ok]
        rfl
      · rename_i fs hu
        cases hb : (P.stoodInHeld T || fs.toList.any (fun f => f.name == "_")) with
        | true => rw [hb] at h; cases h
        | false =>
          rw [hb] at h
          rw [Bool.or_eq_false_iff] at hb
          simp only [cond_false] at h
          split at h
          · rename_i l hl
            obtain ⟨_, rfl⟩ := sized_some' h
            have hagg : (packTy l).isAgg = true := by
              match l with
              | [] => rfl
              | [_] => rfl
              | _ :: _ :: _ => rfl
            have hm : ∀ c, mkVal (packTy l) c = .agg c.toArray := fun c => by unfold mkVal; rw [hagg]; rfl
            have hnm : ∀ f ∈ fs.toList, f.name ≠ "_" := fun f hf => by
              have := List.any_eq_false.1 hb.2 f hf
              simpa using this
            rw [hm, run_checkKey_struct hu]
            exact fields_chk d fs.toList l hl hnm x cx hx m (by omega)
          · cases h
      · cases h
termination_by d => (d, 0)
theorem fields_chk {w w' : World} {S : Nat → Prop} {e : Bool} (d : Nat) (fs : List Field) (l : List Ty) (hl : allOf (keyTy P d) 0 fs = some l) (hnm : ∀ f ∈ fs, f.name ≠ "_") (x : (packTy l).den) (cx : List Value) (hx : Rep w S (packTy l) x cx) (m : Nat) (hm : d ≤ m) :
    (chkFields e m cx.toArray fs).run P w' = .ok () w' := by
  have main : ∀ (fs : List Field) (f : Field) (o : Nat) (l : List Ty) (a : Ty), allOf (keyTy P d) o (f :: fs) = some (a :: l) → (∀ g ∈ f :: fs, g.name ≠ "_") → ∀ (x : (packR a l).den) (ex : List Value), Rep w S (packR a l) x ex →
      cx.toArray.toList.drop o = ex → (chkFields e m cx.toArray (f :: fs)).run P w' = .ok () w' := by
    intro fs
    induction fs with
    | nil =>
      intro f o l a hl hn x ex hx h1
      obtain ⟨a', l', hh, g1, g2, g3⟩ := allOf_cons hl
      injection hh with e1 e2
      subst e1 e2
      simp only [allOf, Option.some.injEq] at g3
      subst g3
      have ok := (keyTy_ok d _ _ g1).1
      have hn1 := hn f (by simp)
      simp only [chkFields, Sem.run_ite, Sem.run_bind]
      rw [if_pos hn1, g2, run_part ok (rest := []) hx (by rw [h1, List.append_nil]), Result.andThen_ok, keyTy_chk d _ _ g1 x ex hx m hm, Result.andThen_ok]
      rfl
    | cons f2 fs ih =>
      intro f o l a hl hn x ex hx h1
      obtain ⟨a', l', hh, g1, g2, g3⟩ := allOf_cons hl
      injection hh with e1 e2
      subst e1 e2
      obtain ⟨b, l2, rfl, k1, k2, k3⟩ := allOf_cons g3
      have ok := (keyTy_ok d _ _ g1).1
      have hn1 := hn f (by simp)
      obtain ⟨c1, c2, q1, q2, q3, q4⟩ := part_split (a := a) (b := packR b l2) hx h1
      have ih' := ih f2 (o + a.size) l2 b g3 (fun g hg => hn g (List.mem_cons_of_mem _ hg)) x.2 c2 q2 q4
      unfold chkFields
      simp only [Sem.run_ite, Sem.run_bind]
      rw [if_pos hn1, g2, run_part ok (rest := c2) q1 q3, Result.andThen_ok, keyTy_chk d _ _ g1 x.1 c1 q1 m hm, Result.andThen_ok]
      exact ih'
  match fs, l, hl, x, hx with
  | [], l, hl, x, hx => rfl
  | f :: fs, l, hl, x, hx =>
    obtain ⟨a, l', rfl, _⟩ := allOf_cons hl
    match l', x, hx, hl with
    | [], x, hx, hl => exact main fs f 0 [] a hl hnm x cx hx (by simp)
    | b :: r, x, hx, hl => exact main fs f 0 (b :: r) a hl hnm x cx hx (by simp)
termination_by (d, 1)
end
theorem keyTy_und {d : Nat} {T : TypeId} {u : Ty} (h : keyTy P d T = some u) : ∃ ds, P.underlying T = some ds ∧ ∀ (w : World) (S : Nat → Prop) (x y : u.den) (cx cy : List Value) (c : Bool), Rep w S u x cx → Rep w S u y cy → Instr.sameNow ds (mkVal u cx) (mkVal u cy) = some c → c = keyEq u x y := by
  cases d with
  | zero => cases h
  | succ d =>
    simp only [keyTy] at h
    split at h
    · cases h
    · split at h
      · rename_i k hu
        obtain ⟨_, rfl⟩ := sized_some' h
        refine ⟨_, hu, fun w S x y cx cy c hx hy hc => ?_⟩
        have hx : _ = _ := hx
        have hy : _ = _ := hy
        subst hx hy
        have hc : Instr.sameNow (.int k) (.int k x) (.int k y) = some c := hc
        simp only [Instr.sameNow, if_true, Option.some.injEq] at hc
        exact hc.symm
      · rename_i hu
        obtain ⟨_, rfl⟩ := sized_some' h
        refine ⟨_, hu, fun w S x y cx cy c hx hy hc => ?_⟩
        have hx : _ = _ := hx
        have hy : _ = _ := hy
        subst hx hy
        have hc : Instr.sameNow .bool (.bool x) (.bool y) = some c := hc
        simp only [Instr.sameNow, Option.some.injEq] at hc
        exact hc.symm
      · rename_i hu
        obtain ⟨_, rfl⟩ := sized_some' h
        refine ⟨_, hu, fun w S x y cx cy c hx hy hc => ?_⟩
        have hx : _ = _ := hx
        have hy : _ = _ := hy
        subst hx hy
        have hc : Instr.sameNow .string (.string x) (.string y) = some c := hc
        simp only [Instr.sameNow, Option.some.injEq] at hc
        exact hc.symm
      · rename_i fs hu
        refine ⟨_, hu, fun w S x y cx cy c hx hy hc => ?_⟩
        unfold Instr.sameNow at hc
        split at hc <;> first | (rename_i heq _ _; cases heq; done) | (rename_i heq _ _ _; cases heq; done) | (cases hc; done)
      · cases h
theorem key_ok {T : TypeId} {u : Ty} (h : keyTy P 12 T = some u) : KeyOk P u T where
  keyed := (keyTy_ok _ _ _ h).2
  eq w S x y cx cy hx hy := keyTy_eq 12 T u h x y cx cy hx hy Op.maxDepth (by decide)
  und := keyTy_und h
  chk e w S x cx hx := keyTy_chk 12 T u h x cx hx 10000 (by decide)
end Go.Ev
end
section
set_option linter.unusedVariables false
set_option linter.unusedSimpArgs false
namespace Go.Ev
open Go.RowKit
theorem zeroLeaf_rep {w : World} {S : Nat → Prop} {t : Ty} {v : Value} (h : zeroLeaf t v = true) : Rep w S t t.dflt [v] := by
  cases t <;> cases v <;> simp only [zeroLeaf, Bool.and_eq_true, decide_eq_true_eq, Bool.not_eq_true', Option.isNone_iff_eq_none, reduceCtorEq, Bool.false_eq_true] at h
  · obtain ⟨rfl, rfl⟩ := h; rfl
  · subst h; rfl
  · obtain ⟨rfl, rfl⟩ := h; rfl
  · subst h; rfl
  · obtain ⟨⟨rfl, rfl⟩, rfl⟩ := h
    exact ⟨none, 0, rfl, Nat.le_refl _, fun i x hx => by simp [Ty.dflt] at hx⟩
theorem takeLeaf_rep {w : World} {S : Nat → Prop} {t : Ty} {l r : List Value} (h : takeLeaf t l = some r) : ∃ c, l = c ++ r ∧ Rep w S t t.dflt c := by
  cases l with
  | nil => cases h
  | cons v l =>
    simp only [takeLeaf] at h
    cases hz : zeroLeaf t v with
    | false => rw [hz] at h; cases h
    | true =>
      rw [hz] at h
      injection h with h
      subst h
      exact ⟨[v], rfl, zeroLeaf_rep hz⟩
theorem zeroTake_rep {w : World} {S : Nat → Prop} : ∀ {t : Ty} {l r : List Value}, zeroTake t l = some r → ∃ c, l = c ++ r ∧ Rep w S t t.dflt c
  | .unit, l, r, h => by
    simp only [zeroTake, Option.some.injEq] at h
    exact ⟨[], by simp [h], rfl⟩
  | .one a, l, r, h => by
    simp only [zeroTake] at h
    obtain ⟨c, h1, h2⟩ := zeroTake_rep h
    exact ⟨c, h1, h2⟩
  | .pair a b, l, r, h => by
    simp only [zeroTake] at h
    split at h
    · rename_i m hm
      obtain ⟨c, h1, h2⟩ := zeroTake_rep hm
      obtain ⟨d, h3, h4⟩ := zeroTake_rep h
      exact ⟨c ++ d, by rw [h1, h3, List.append_assoc], c, d, rfl, h2, h4⟩
    · cases h
  | .int k, l, r, h => takeLeaf_rep h
  | .bool, l, r, h => takeLeaf_rep h
  | .f64, l, r, h => takeLeaf_rep h
  | .str, l, r, h => takeLeaf_rep h
  | .sl e, l, r, h => takeLeaf_rep h
  | .box _, l, r, h => by cases h
  | .mp _ _, l, r, h => by cases h
  | .trie, l, r, h => by cases h
theorem sized_some {n m : Nat} {u v : Ty} (h : sized n m u = some v) : n = m ∧ u = v := by
  unfold sized at h
  cases hb : Nat.beq n m with
  | false => rw [hb] at h; cases h
  | true => rw [hb] at h; injection h with h; exact ⟨Nat.eq_of_beq_eq_true hb, h⟩
variable {P : Program}
theorem tyOf_ok : ∀ (d : Nat) (T : TypeId) (u : Ty), tyOf P d T = some u → TyOk P u T
  | 0, T, u, h => by cases h
  | d + 1, T, u, h => by
    simp only [tyOf] at h
    split at h
    · cases h
    · rename_i i hi
      have hs : ∀ n, i.size = n → SizeIs P T n := fun n hn => by unfold SizeIs; rw [hi]; simp [hn]
      split at h
      · rename_i k hu
        obtain ⟨h1, rfl⟩ := sized_some h
        exact ⟨hu, hs _ h1⟩
      · rename_i hu
        obtain ⟨h1, rfl⟩ := sized_some h
        exact ⟨hu, hs _ h1⟩
      · rename_i hu
        obtain ⟨h1, rfl⟩ := sized_some h
        exact ⟨hu, hs _ h1⟩
      · rename_i hu
        obtain ⟨h1, rfl⟩ := sized_some h
        exact ⟨hu, hs _ h1⟩
      · rename_i te hu
        split at h
        · rename_i e he
          split at h
          · rename_i z hz
            split at h
            · rename_i hzt
              cases hb : Nat.ble e.lb (P.bytesOf te) && Nat.ble 1 e.size with
              | false => rw [hb] at h; cases h
              | true =>
              rw [hb] at h
              obtain ⟨h1, rfl⟩ := sized_some h
              refine ⟨hs _ h1, te, hu, tyOf_ok d te e he, z, hz, fun w S => ?_⟩
              obtain ⟨c, h3, h4⟩ := zeroTake_rep (w := w) (S := S) hzt
              rw [List.append_nil] at h3
              rw [h3]
              exact h4
            · cases h
          · cases h
        · cases h
      · rename_i fs hu
        split at h
        · rename_i l hl
          obtain ⟨h1, rfl⟩ := sized_some h
          match l, h1 with
          | [], h1 => exact ⟨hs _ h1, fs, hu⟩
          | [a], h1 => exact ⟨hs _ h1, fs, hu⟩
          | a :: b :: r, h1 => exact ⟨hs _ h1, fs, hu⟩
        · cases h
      · cases h
theorem tyOfC_ok : ∀ (d : Nat) (T : TypeId) (u : Ty), tyOfC P d T = some u → TyOk P u T
  | 0, T, u, h => by cases h
  | d + 1, T, u, h => by
    simp only [tyOfC] at h
    split at h
    · rename_i u' hu'
      injection h with h
      subst h
      exact tyOf_ok _ _ _ hu'
    · split at h
      · cases h
      · rename_i i hi
        have hs : ∀ n, i.size = n → SizeIs P T n := fun n hn => by unfold SizeIs; rw [hi]; simp [hn]
        split at h
        · rename_i tk tv hu
          split at h
          · split at h
            · obtain ⟨h1, rfl⟩ := sized_some h
              exact ⟨hs _ h1, tk, tv, hu⟩
            · cases h
          · cases h
        · rename_i te hu
          cases hb : isTrie P te with
          | true =>
            rw [hb] at h
            obtain ⟨h1, rfl⟩ := sized_some h
            exact ⟨hs _ h1, te, hu⟩
          | false =>
            rw [hb] at h
            simp only [cond_false] at h
            split at h
            · rename_i a ha
              cases hg : a.isAgg with
              | false => rw [hg] at h; cases h
              | true =>
                rw [hg] at h
                obtain ⟨h1, rfl⟩ := sized_some h
                exact ⟨hs _ h1, te, hu⟩
            · cases h
        · rename_i fs hu
          split at h
          · rename_i l hl
            obtain ⟨h1, rfl⟩ := sized_some h
            match l, h1 with
            | [], h1 => exact ⟨hs _ h1, fs, hu⟩
            | [a], h1 => exact ⟨hs _ h1, fs, hu⟩
            | a :: b :: r, h1 => exact ⟨hs _ h1, fs, hu⟩
          · cases h
        · cases h
theorem envOf_ok {tr : Bool} (call : FuncId → Option Spec) (ext : FuncId → Option (Nat → List Slot → Store → Option ExtR)) (hint : Nat → Option (List (Nat × Option Ty))) {join : Nat → Bool} {lit : Bool} (hc : ∀ f sp, call f = some sp → Entered P f ∧ Pure tr P f sp)
    (hx : ∀ f X, ext f = some X → Entered P f ∧ ExtOk tr P f X ∧ ExtLocal X) : EnvOk tr P (envOf P call ext hint join lit) where
  ty T u h := tyOfC_ok 12 T u h
  bytes T n h te hu := by
    simp only [envOf, bytesOf, hu] at h
    split at h
    · rename_i i hi
      cases hb : Nat.beq i.bytes 0 with
      | true => rw [hb] at h; cases h
      | false =>
        rw [hb] at h
        injection h with h
        subst h
        exact ⟨by rw [hi]; rfl, Nat.pos_of_ne_zero fun h0 => by rw [h0] at hb; cases hb⟩
    · cases h
  shape T n g h := by
    simp only [envOf, shapeOf] at h
    split at h
    · rename_i i hi
      split at h
      · rename_i d hd
        injection h with h
        injection h with h1 h2
        refine ⟨by unfold SizeIs; rw [hi]; exact congrArg some h1, ?_⟩
        unfold AggIs
        rw [hd]
        subst h2
        cases d <;> rfl
      · cases h
    · cases h
  fld T i off n h := by
    simp only [envOf, fldOf] at h
    split at h
    · rename_i fs hu
      split at h
      · rename_i f hf
        split at h
        · rename_i j hj
          cases hb : Nat.beq j.size 0 with
          | true => rw [hb] at h; cases h
          | false =>
            rw [hb] at h
            injection h with h
            injection h with h1 h2
            subst h1 h2
            refine ⟨fun h0 => ?_, fs, f, hu, hf, rfl, ?_⟩
            · rw [h0] at hb; cases hb
            · unfold SizeIs; rw [hj]; rfl
        · cases h
      · cases h
    · cases h
  strct T h := by
    simp only [envOf, strctOf] at h
    split at h
    · rename_i fs hu
      refine ⟨fs, hu, fun f hf => ?_⟩
      have := List.all_eq_true.1 h f hf
      obtain ⟨i, hi⟩ := Option.isSome_iff_exists.1 this
      exact ⟨i.size, by unfold SizeIs; rw [hi]; rfl⟩
    · cases h
  zero T cs h := by
    simp only [envOf, zeroOf] at h
    split at h
    · rename_i v hv
      exact ⟨v, hv, fun w S hv => constAVs_rep h⟩
    · cases h
  eqt T u h := by
    simp only [envOf, eqOf] at h
    split at h
    · rename_i u' hu
      cases hb : (u'.isAgg || u'.isBool) && !P.eqGuardType P.depth T with
      | false => rw [hb] at h; cases h
      | true =>
        rw [hb] at h
        injection h with h
        subst h
        rw [Bool.and_eq_true, Bool.or_eq_true, Bool.not_eq_true'] at hb
        obtain ⟨hb1, hb2⟩ := hb
        have hk := key_ok hu
        refine ⟨?_, fun w S x y c cx cy hx hy he => ?_⟩
        · rcases hb1 with h | h
          · exact .inr h
          · cases u' <;> first | exact .inl rfl | cases h
        · rw [eqDen_keyed x y hk.keyed] at he
          injection he with he
          subst he
          refine ⟨hk.eq w S x y cx cy hx hy, fun op o1 o2 => ?_⟩
          rcases hb1 with h | h
          · unfold mkVal
            rw [h]
            unfold eqGuard
            cases op <;> simp [run_program, Sem.run_bind, Sem.run_ite, Result.andThen_ok, hb2]
          · cases u' <;> first | cases h | skip
            have hx : _ = _ := hx
            have hy : _ = _ := hy
            subst hx hy
            show (eqGuard op T o1 o2 (.bool x) (.bool y)).run P w = _
            unfold eqGuard
            cases op <;> rfl
    · cases h
  ptr T h := by
    simp only [envOf, ptrOf] at h
    split at h
    · rename_i te hu
      exact ⟨te, hu⟩
    · cases h
  mapT T k v h := by
    simp only [envOf, mapOf] at h
    split at h
    · rename_i tk tv hu
      split at h
      · rename_i k' hk
        split at h
        · rename_i v' hv
          split at h
          · rename_i z hz
            cases hb : zeroFits v' z with
            | false => rw [hb] at h; cases h
            | true =>
              rw [hb] at h
              injection h with h
              injection h with h1 h2
              subst h1 h2
              refine ⟨tk, tv, z, hu, key_ok hk, tyOf_ok _ _ _ hv, hz, fun w S => ?_⟩
              unfold zeroFits at hb
              split at hb
              · rename_i hzt
                obtain ⟨c, h3, h4⟩ := zeroTake_rep (w := w) (S := S) hzt
                rw [List.append_nil] at h3
                refine ⟨c, h4, ?_⟩
                rw [← h3]
                unfold mkVal
                split at hb
                · rw [if_pos hb]
                  rfl
                · cases hb
                · rename_i hna hnt
                  rw [Bool.not_eq_true'] at hb
                  rw [hb]
                  cases z <;> first | rfl | (exact absurd rfl (hna _)) | (exact absurd rfl (hnt _))
              · cases hb
          · cases h
        · cases h
      · cases h
    · cases h
  call := hc
  ext := hx
theorem pick_mem {α : Type _} {l : List (Nat × α)} {f : Nat} {a : α} (h : pick l f = some a) : (f, a) ∈ l := by
  induction l with
  | nil => cases h
  | cons p r ih =>
    obtain ⟨j, s⟩ := p
    simp only [pick] at h
    cases hb : Nat.beq j f with
    | true =>
      rw [hb] at h
      injection h with h
      subst h
      have := Nat.eq_of_beq_eq_true hb
      subst this
      exact List.mem_cons_self
    | false =>
      rw [hb] at h
      exact List.mem_cons_of_mem _ (ih h)
theorem pick_ok {tr : Bool} {call : List (Nat × Spec)} (h : ∀ p ∈ call, Entered P p.1 ∧ Pure tr P p.1 p.2) : ∀ f sp, pick call f = some sp → Entered P f ∧ Pure tr P f sp := fun f sp hp => h _ (pick_mem hp)
theorem pick_ext {tr : Bool} {ext : List (Nat × (Nat → List Slot → Store → Option ExtR))} (h : ∀ p ∈ ext, Entered P p.1 ∧ ExtOk tr P p.1 p.2 ∧ ExtLocal p.2) : ∀ f X, pick ext f = some X → Entered P f ∧ ExtOk tr P f X ∧ ExtLocal X := fun f X hp => h _ (pick_mem hp)
theorem entered_of {f : FuncId} {fn : Func} (hf : P.funcs[f]? = some fn) (hn : (fn.name == "runtime.NumGoroutine") = false) {c : Code} (hb : fn.body = some c) : Entered P f := by
  intro args w
  simp [callFunc, hf, beq_eq_false_iff_ne.1 hn, hb]
variable {R σ : Type} {E : Env} {fuel id : Nat} {c : Code}
theorem loop_iter {K : Ex → St → Option R} {mk : σ → St} {B : (σ → Option R) → σ → Option R} (h : ∀ (k : St → Option R) (s : σ), bodyAt E fuel id c K k (mk s) = B (fun t => k (mk t)) s) : ∀ n s, loopAt E fuel id c K n (mk s) = iterN B n s := by
  unfold bodyAt at h
  unfold loopAt
  split
  · rename_i body K' hs
    simp only [hs] at h
    intro n
    induction n with
    | zero => intro s; rfl
    | succ n ih =>
      intro s
      simp only [loopN, iterN]
      rw [← funext ih]
      exact h _ s
  · rename_i hs
    simp only [hs] at h
    intro n
    induction n with
    | zero => intro s; rfl
    | succ n ih =>
      intro s
      simp only [iterN]
      rw [← funext ih]
      exact h (fun _ => none) s
end Go.Ev
end
section
set_option linter.unusedVariables false
set_option linter.unusedSimpArgs false
namespace Go.Ev
open Go.RowKit
variable {w : World} {S S0 : Nat → Prop} {hv : Hv} {st : Store}
theorem get_putOs : ∀ (os : List Ob) (n : Nat) (st : Store) (j : Nat), (putOs n os st).get j = if n ≤ j ∧ j < n + os.length then os[j - n]? else st.get j
  | [], n, st, j => by
    rw [if_neg (by simp)]
    rfl
  | o :: r, n, st, j => by
    simp only [putOs]
    rw [get_putOs r (n + 1) _ j, get_put]
    by_cases h1 : n + 1 ≤ j ∧ j < n + 1 + r.length
    · rw [if_pos h1, if_pos (by simp; omega), show j - n = (j - (n + 1)) + 1 by omega, List.getElem?_cons_succ]
    · rw [if_neg h1]
      by_cases h2 : j = n
      · subst h2
        rw [if_pos rfl, if_pos (by simp), Nat.sub_self]
        rfl
      · rw [if_neg h2, if_neg (by simp; omega)]
structure Laid (w : World) (S : Nat → Prop) (os : List Ob) (vs : List Value) (fs : List (List Nat)) : Prop where
  vl : vs.length = os.length
  fl : fs.length = os.length
  rep : ∀ (i : Nat) (ob : Ob) (v : Value) (f : List Nat), os[i]? = some ob → vs[i]? = some v → fs[i]? = some f →
    isCell v ∧ (∀ hv' : Hv, ObRep w S hv' v ob) ∧ (∀ b, Bk f ob v b → b ∈ f) ∧ (∀ d x, ob = .deep d x → DRep w S d x [v] f) ∧ (∀ sl, ob ≠ .ghost sl) ∧ ∀ j i, ob ≠ .alias j i
theorem layD_rep : ∀ {d : DT} {x : d.den} {cs : List Value} {F : List Nat} (n : Nat), DRep w S d x cs F → ∃ (vs : List Value) (fs : List (List Nat)), F = fs.flatten ∧ Laid w S (layD d x n).2 vs fs ∧
    ∀ hv' : Hv, (∀ (i : Nat) (v : Value), vs[i]? = some v → hv' (n + i) = some v) → All2 (CRep w S hv') (layD d x n).1 cs
  | .val t, x, cs, F, n, ⟨h1, h2⟩ => ⟨[], [], h2, ⟨rfl, rfl, fun i ob v f h => by simp [layD] at h⟩, fun hv' _ => scatter_rep h1⟩
  | .row e, xs, cs, F, n, ⟨v, h1, h2, h3⟩ => by
    subst h1
    have hc : isCell v := by rcases h2 with ⟨A, rfl, _⟩ | ⟨b, o, cap, vs, ty, rfl, _⟩ <;> trivial
    refine ⟨[v], [F], by simp, ⟨rfl, rfl, fun i ob u f ho hu hf => ?_⟩, fun hv' hh => ⟨⟨⟨hh 0 v rfl, hc⟩, hc⟩, trivial⟩⟩
    cases i with
    | succ i => simp [layD] at ho
    | zero =>
      simp only [layD, List.getElem?_cons_zero, Option.some.injEq] at ho hu hf
      subst ho hu hf
      refine ⟨hc, fun _ => h2, fun b hb => ?_, fun d x e => (by cases e), fun sl e => (by cases e), fun j i e => (by cases e)⟩
      have hb : blk (.row e xs) v = some b := hb
      rw [h3]
      rcases h2 with ⟨A, rfl, _⟩ | ⟨b', o', cap, vs, ty, rfl, h0, _⟩
      · cases A <;> simp [blk] at hb
      · simp only [blk, h0, if_true, Option.some.injEq] at hb
        simp [rowBlk, h0, hb]
  | .map kt vt, x, cs, F, n, ⟨b, es, h1, h2, h3, h4⟩ => by
    subst h1
    refine ⟨[.map (some b)], [F], by simp, ⟨rfl, rfl, fun i ob u f ho hu hf => ?_⟩, fun hv' hh => ⟨⟨⟨hh 0 _ rfl, trivial⟩, trivial⟩, trivial⟩⟩
    cases i with
    | succ i => simp [layD] at ho
    | zero =>
      simp only [layD, List.getElem?_cons_zero, Option.some.injEq] at ho hu hf
      subst ho hu hf
      refine ⟨trivial, fun _ => ⟨b, es, rfl, h2, h3⟩, fun c hc => ?_, fun d x e => (by cases e), fun sl e => (by cases e), fun j i e => (by cases e)⟩
      have hc : some b = some c := hc
      injection hc with hc
      rw [h4, hc]
      simp
  | .box d, x, cs, F, n, h => by
    have h0 := h
    obtain ⟨b, vs, ty, F', rfl, _⟩ := h0
    refine ⟨[.pointer (some ⟨b, 0, none⟩)], [F], by simp, ⟨rfl, rfl, fun i ob u f ho hu hf => ?_⟩, fun hv' hh => ⟨⟨.inl ⟨b, hh 0 _ rfl, rfl⟩, trivial⟩, trivial⟩⟩
    cases i with
    | succ i => simp [layD] at ho
    | zero =>
      simp only [layD, List.getElem?_cons_zero, Option.some.injEq] at ho hu hf
      subst ho hu hf
      refine ⟨trivial, fun _ => trivial, fun c hc => hc, fun d' x' e => ?_, fun sl e => (by cases e), fun j i e => (by cases e)⟩
      injection e with e1 e2
      subst e1
      have e2 := eq_of_heq e2
      subst e2
      exact h
  | .pair a b, x, cs, F, n, ⟨c1, c2, F1, F2, h1, h2, h3, h4⟩ => by
    subst h1 h2
    obtain ⟨vs1, fs1, rfl, l1, r1⟩ := layD_rep n h3
    obtain ⟨vs2, fs2, rfl, l2, r2⟩ := layD_rep (n + (layD a x.1 n).2.length) h4
    refine ⟨vs1 ++ vs2, fs1 ++ fs2, by simp, ⟨by simp [layD, l1.vl, l2.vl], by simp [layD, l1.fl, l2.fl], fun i ob v f ho hu hf => ?_⟩, fun hv' hh => ?_⟩
    · have hv1 := l1.vl
      have hf1 := l1.fl
      simp only [layD] at ho
      by_cases hi : i < (layD a x.1 n).2.length
      · rw [List.getElem?_append_left hi] at ho
        rw [List.getElem?_append_left (by omega)] at hu hf
        exact l1.rep i ob v f ho hu hf
      · rw [List.getElem?_append_right (by omega)] at ho hu hf
        rw [hv1] at hu
        rw [hf1] at hf
        exact l2.rep _ ob v f ho hu hf
    · simp only [layD]
      refine (r1 hv' fun i v hi => hh i v ?_).append (r2 hv' fun i v hi => ?_)
      · rw [List.getElem?_append_left (List.getElem?_eq_some_iff.1 hi).1]
        exact hi
      · have := hh (vs1.length + i) v (by rw [List.getElem?_append_right (by omega), Nat.add_sub_cancel_left]; exact hi)
        rw [l1.vl] at this
        rw [← this]
        congr 1
        omega
  | .unit, _, cs, F, n, ⟨h1, h2⟩ => ⟨[], [], h2, ⟨rfl, rfl, fun i ob v f h => by simp [layD] at h⟩, fun hv' _ => by rw [h1]; exact trivial⟩
  | .drow d, xs, cs, F, n, h => by
    have h0 := h
    obtain ⟨v, rfl, hc⟩ : ∃ v, cs = [v] ∧ isCell v := by rcases h0 with ⟨A, rfl, _⟩ | ⟨b, o, cap, vs, ty, Fs, rfl, _⟩ <;> exact ⟨_, rfl, trivial⟩
    refine ⟨[v], [F], by simp, ⟨rfl, rfl, fun i ob u f ho hu hf => ?_⟩, fun hv' hh => ⟨⟨⟨hh 0 v rfl, hc⟩, hc⟩, trivial⟩⟩
    cases i with
    | succ i => simp [layD] at ho
    | zero =>
      simp only [layD, List.getElem?_cons_zero, Option.some.injEq] at ho hu hf
      subst ho hu hf
      refine ⟨hc, fun _ => hc, fun c hc => hc, fun d' x' e => ?_, fun sl e => (by cases e), fun j i e => (by cases e)⟩
      injection e with e1 e2
      subst e1
      have e2 := eq_of_heq e2
      subst e2
      exact h
  | .trie, x, cs, F, n, h => by
    have h0 := h
    obtain ⟨v, rfl, hc⟩ : ∃ v, cs = [v] ∧ isCell v := by obtain ⟨b, a1, a2, has, v, ty, F1, F2, rfl, _⟩ := h0; exact ⟨_, rfl, trivial⟩
    refine ⟨[v], [F], by simp, ⟨rfl, rfl, fun i ob u f ho hu hf => ?_⟩, fun hv' hh => ⟨⟨⟨hh 0 v rfl, hc⟩, hc⟩, trivial⟩⟩
    cases i with
    | succ i => simp [layD] at ho
    | zero =>
      simp only [layD, List.getElem?_cons_zero, Option.some.injEq] at ho hu hf
      subst ho hu hf
      refine ⟨hc, fun _ => hc, fun c hc => hc, fun d' x' e => ?_, fun sl e => (by cases e), fun j i e => (by cases e)⟩
      injection e with e1 e2
      subst e1
      have e2 := eq_of_heq e2
      subst e2
      exact h
theorem flat_nodup : ∀ {fs : List (List Nat)}, fs.flatten.Nodup → (∀ f ∈ fs, f.Nodup) ∧ ∀ (i j b : Nat) (f g : List Nat), fs[i]? = some f → fs[j]? = some g → b ∈ f → b ∈ g → i = j
  | [], _ => ⟨fun f hf => (by cases hf), fun i j b f g h => (by simp at h)⟩
  | x :: r, h => by
    rw [List.flatten_cons, List.nodup_append] at h
    obtain ⟨h1, h2, h3⟩ := h
    obtain ⟨k1, k2⟩ := flat_nodup h2
    refine ⟨fun f hf => ?_, fun i j b f g hi hj hbf hbg => ?_⟩
    · rcases List.mem_cons.1 hf with rfl | hf
      · exact h1
      · exact k1 f hf
    · cases i with
      | zero =>
        simp only [List.getElem?_cons_zero, Option.some.injEq] at hi
        subst hi
        cases j with
        | zero => rfl
        | succ j => exact absurd rfl (h3 b hbf b (List.mem_flatten.2 ⟨g, List.mem_of_getElem? (by simpa using hj), hbg⟩))
      | succ i =>
        cases j with
        | zero =>
          simp only [List.getElem?_cons_zero, Option.some.injEq] at hj
          subst hj
          exact absurd rfl (h3 b hbg b (List.mem_flatten.2 ⟨f, List.mem_of_getElem? (by simpa using hi), hbf⟩))
        | succ j => rw [k2 i j b f g (by simpa using hi) (by simpa using hj) hbf hbg]
theorem flatten_idx {fs : List (List Nat)} (h : fs.flatten.Nodup) {i j b : Nat} {f g : List Nat} (hi : fs[i]? = some f) (hj : fs[j]? = some g) (hbf : b ∈ f) (hbg : b ∈ g) : i = j := (flat_nodup h).2 i j b f g hi hj hbf hbg
theorem StRel.open_ (h : StRel w S0 hv st) {k n : Nat} {d : DT} {x : d.den} (hg : st.get k = some (.deep (.box d) x)) (hfr : ∀ j, n ≤ j → j < n + (layD d x n).2.length → hv j = none) :
    ∃ hv', StRel w S0 hv' (putOs n (layD d x n).2 (st.put k (.cells (layD d x n).1))) ∧ hv.le hv' ∧ (∀ j, ¬ (n ≤ j ∧ j < n + (layD d x n).2.length) → hv' j = hv j ∧ hv'.ft j = hv.ft j) ∧
      (∀ b, Own hv' (putOs n (layD d x n).2 (st.put k (.cells (layD d x n).1))) b → Own hv st b) ∧ ∀ j sl, (putOs n (layD d x n).2 (st.put k (.cells (layD d x n).1))).get j = some (.ghost sl) → st.get j = some (.ghost sl) := by
  obtain ⟨u, hu, _⟩ := h.objs _ _ hg
  obtain ⟨hd, hnd⟩ := h.deep k (.box d) x u hg hu
  obtain ⟨b0, us, ty, F', hub, hw, hin, hF⟩ := hd
  injection hub with hub
  subst hub
  obtain ⟨vs, fs, rfl, hl, hcs⟩ := layD_rep n hin
  rw [hF] at hnd
  have hb0 := (List.nodup_cons.1 hnd).1
  have hnd' := (List.nodup_cons.1 hnd).2
  have hvl := hl.vl
  have hfl := hl.fl
  have hrep := hl.rep
  revert hcs
  revert hl
  generalize hos : (layD d x n).2 = os at *
  generalize (layD d x n).1 = cs
  intro hl hcs
  have hkn : ¬ (n ≤ k ∧ k < n + os.length) := fun hk => by
    rw [hfr k hk.1 hk.2] at hu
    cases hu
  obtain ⟨hv', hin', hout', hinF, houtF⟩ : ∃ hv' : Hv, (∀ i, i < os.length → hv' (n + i) = vs[i]?) ∧ (∀ j, ¬ (n ≤ j ∧ j < n + os.length) → hv' j = hv j) ∧ (∀ i, i < os.length → hv'.ft (n + i) = (fs[i]?).getD []) ∧ (∀ j, ¬ (n ≤ j ∧ j < n + os.length) → hv'.ft j = hv.ft j) :=
    ⟨⟨fun j => if n ≤ j ∧ j < n + os.length then vs[j - n]? else hv j, fun j => if n ≤ j ∧ j < n + os.length then (fs[j - n]?).getD [] else hv.ft j⟩,
      fun i hi => by simp only []; rw [if_pos (by omega), Nat.add_sub_cancel_left], fun j hj => if_neg hj, fun i hi => by simp only []; rw [if_pos (by omega), Nat.add_sub_cancel_left], fun j hj => if_neg hj⟩
  have hle : hv.le hv' := fun j v hj => by
    by_cases hr : n ≤ j ∧ j < n + os.length
    · rw [hfr j hr.1 hr.2] at hj
      cases hj
    · rw [hout' j hr]
      exact hj
  have hcase : ∀ j o, (putOs n os (st.put k (.cells cs))).get j = some o → (∃ i v f, i < os.length ∧ j = n + i ∧ os[i]? = some o ∧ vs[i]? = some v ∧ fs[i]? = some f ∧ hv' j = some v ∧ hv'.ft j = f) ∨ (j = k ∧ o = .cells cs ∧ hv' j = hv j) ∨
      (j ≠ k ∧ st.get j = some o ∧ hv' j = hv j ∧ hv'.ft j = hv.ft j) := by
    intro j o hj
    rw [get_putOs] at hj
    split at hj
    · rename_i hr
      have hi : j - n < os.length := by omega
      refine .inl ⟨j - n, vs[j - n]'(by omega), fs[j - n]'(by omega), hi, by omega, hj, List.getElem?_eq_getElem _, List.getElem?_eq_getElem _, ?_, ?_⟩
      · have := hin' (j - n) hi
        rw [show n + (j - n) = j by omega] at this
        rw [this]
        exact List.getElem?_eq_getElem _
      · have := hinF (j - n) hi
        rw [show n + (j - n) = j by omega, List.getElem?_eq_getElem (by omega)] at this
        exact this
    · rename_i hr
      rw [get_put] at hj
      split at hj
      · rename_i e
        injection hj with hj
        exact .inr (.inl ⟨e, hj.symm, hout' j hr⟩)
      · rename_i e
        exact .inr (.inr ⟨e, hj, hout' j hr, houtF j hr⟩)
  have hbk : ∀ j o v b, (putOs n os (st.put k (.cells cs))).get j = some o → hv' j = some v → Bk (hv'.ft j) o v b → (∃ i f, j = n + i ∧ fs[i]? = some f ∧ b ∈ f) ∨ (j = k ∧ b = b0) ∨ (j ≠ k ∧ st.get j = some o ∧ hv j = some v ∧ Bk (hv.ft j) o v b) := by
    intro j o v b g1 g2 g3
    rcases hcase j o g1 with ⟨i, v', f, hi, rfl, q1, q2, q3, q4, q5⟩ | ⟨rfl, rfl, q1⟩ | ⟨q0, q1, q2, q3⟩
    · rw [q4] at g2
      injection g2 with g2
      subst g2
      rw [q5] at g3
      exact .inl ⟨i, f, rfl, q3, (hrep i o v' f q1 q2 q3).2.2.1 b g3⟩
    · rw [q1, hu] at g2
      injection g2 with g2
      subst g2
      have g3 : some b0 = some b := g3
      injection g3 with g3
      exact .inr (.inl ⟨rfl, g3.symm⟩)
    · exact .inr (.inr ⟨q0, q1, q2 ▸ g2, q3 ▸ g3⟩)
  have hroot : ∀ b, b ∈ b0 :: fs.flatten → Own hv st b := fun b hb => ⟨k, _, _, hg, hu, by rw [hF]; exact hb⟩
  have hown : ∀ b, Own hv' (putOs n os (st.put k (.cells cs))) b → Own hv st b := by
    rintro b ⟨j, o, v, g1, g2, g3⟩
    rcases hbk j o v b g1 g2 g3 with ⟨i, f, _, q1, q2⟩ | ⟨_, rfl⟩ | ⟨_, q1, q2, q3⟩
    · exact hroot b (List.mem_cons_of_mem _ (List.mem_flatten.2 ⟨f, List.mem_of_getElem? q1, q2⟩))
    · exact hroot b (by simp)
    · exact ⟨j, o, v, q1, q2, q3⟩
  have hs : StepOk w (All S0 hv st) w (All S0 hv' (putOs n os (st.put k (.cells cs)))) := (StepOk.refl _ _).sub fun b hb => hb.imp id (hown b)
  refine ⟨hv', ⟨fun j o hj => ?_, fun j o v j' o' v' b g1 g2 g3 g4 g5 g6 => ?_, fun b hb => h.out b (hown b hb), fun j d' x' v hj hv1 => ?_, fun j t i hj => ?_⟩, hle, fun j hj => ⟨hout' j hj, houtF j hj⟩, hown, fun j sl hj => ?_⟩
  · rcases hcase j o hj with ⟨i, v, f, hi, rfl, q1, q2, q3, q4, q5⟩ | ⟨rfl, rfl, q1⟩ | ⟨q0, q1, q2, q3⟩
    · exact ⟨v, q4, ObRep.step ((hrep i o v f q1 q2 q3).2.1 hv') hs (Hv.le_refl _) fun _ _ => rfl⟩
    · refine ⟨_, q1.trans hu, b0, us, ty, rfl, hw, ?_⟩
      refine (hcs hv' fun i v hi => ?_).mono fun _ _ r => CRep.step hs (Hv.le_refl _) r
      have hil := (List.getElem?_eq_some_iff.1 hi).1
      rw [hin' i (by omega)]
      exact hi
    · obtain ⟨v, p1, p2⟩ := h.objs j o q1
      exact ⟨v, q2.trans p1, p2.step hs hle fun _ _ => rfl⟩
  · rcases hbk j o v b g1 g2 g3 with ⟨i, f, rfl, q1, q2⟩ | ⟨rfl, rfl⟩ | ⟨q0, q1, q2, q3⟩
    · rcases hbk j' o' v' b g4 g5 g6 with ⟨i', f', rfl, q1', q2'⟩ | ⟨rfl, rfl⟩ | ⟨q0', q1', q2', q3'⟩
      · rw [flatten_idx hnd' q1 q1' q2 q2']
      · exact absurd (List.mem_flatten.2 ⟨f, List.mem_of_getElem? q1, q2⟩) hb0
      · have := h.inj _ _ _ _ _ _ b q1' q2' q3' hg hu (by show b ∈ hv.ft k; rw [hF]; exact List.mem_cons_of_mem _ (List.mem_flatten.2 ⟨f, List.mem_of_getElem? q1, q2⟩))
        exact absurd this q0'
    · rcases hbk j' o' v' b g4 g5 g6 with ⟨i', f', rfl, q1', q2'⟩ | ⟨rfl, _⟩ | ⟨q0', q1', q2', q3'⟩
      · exact absurd (List.mem_flatten.2 ⟨f', List.mem_of_getElem? q1', q2'⟩) hb0
      · rfl
      · have := h.inj _ _ _ _ _ _ b q1' q2' q3' hg hu (by show b ∈ hv.ft j; rw [hF]; simp)
        exact absurd this q0'
    · rcases hbk j' o' v' b g4 g5 g6 with ⟨i', f', rfl, q1', q2'⟩ | ⟨rfl, rfl⟩ | ⟨q0', q1', q2', q3'⟩
      · have := h.inj _ _ _ _ _ _ b q1 q2 q3 hg hu (by show b ∈ hv.ft k; rw [hF]; exact List.mem_cons_of_mem _ (List.mem_flatten.2 ⟨f', List.mem_of_getElem? q1', q2'⟩))
        exact absurd this q0
      · have := h.inj _ _ _ _ _ _ b q1 q2 q3 hg hu (by show b ∈ hv.ft j'; rw [hF]; simp)
        exact absurd this q0
      · exact h.inj _ _ _ _ _ _ b q1 q2 q3 q1' q2' q3'
  · rcases hcase j _ hj with ⟨i, v', f, hi, rfl, q1, q2, q3, q4, q5⟩ | ⟨rfl, e, q1⟩ | ⟨q0, q1, q2, q3⟩
    · rw [q4] at hv1
      injection hv1 with hv1
      subst hv1
      rw [q5]
      exact ⟨((hrep i _ v' f q1 q2 q3).2.2.2.1 d' x' rfl).step hs fun _ _ => rfl, (flat_nodup hnd').1 f (List.mem_of_getElem? q3)⟩
    · cases e
    · rw [q3]
      obtain ⟨p1, p2⟩ := h.deep j d' x' v q1 (q2 ▸ hv1)
      exact ⟨p1.step hs fun _ _ => rfl, p2⟩
  · rcases hcase j _ hj with ⟨i', v', f, hi, rfl, q1, q2, q3, q4, q5⟩ | ⟨rfl, e, q1⟩ | ⟨q0, q1, q2, q3⟩
    · exact absurd rfl ((hrep i' _ v' f q1 q2 q3).2.2.2.2.2 t i)
    · cases e
    · obtain ⟨d', xs, v, b, o, len, cap, p1, p2, p3, p4, p5, p6, p7, p8⟩ := h.ali j t i q1
      have hnt : ¬ (n ≤ t ∧ t < n + os.length) := fun ht => by
        rw [hfr t ht.1 ht.2] at p6
        cases p6
      have htk : t ≠ k := fun e => by
        subst e
        rw [hg] at p1
        injection p1 with p1
        cases p1
      refine ⟨d', xs, v, b, o, len, cap, ?_, p2, p3, q2.trans p4, p5, (hout' t hnt).trans p6, p7, by rw [houtF t hnt]; exact p8⟩
      rw [get_putOs, if_neg hnt, get_put, if_neg htk]
      exact p1
  · rcases hcase j _ hj with ⟨i, v', f, hi, rfl, q1, q2, q3, q4, q5⟩ | ⟨rfl, e, q1⟩ | ⟨q0, q1, q2, q3⟩
    · exact absurd rfl ((hrep i _ v' f q1 q2 q3).2.2.2.2.1 sl)
    · cases e
    · exact q1
theorem get_eraseAll : ∀ (ks : List Nat) (st : Store) (j : Nat), (eraseAll ks st).get j = if j ∈ ks then none else st.get j
  | [], st, j => by simp [eraseAll]
  | k :: r, st, j => by
    simp only [eraseAll]
    rw [get_eraseAll r, get_erase]
    by_cases h1 : j ∈ r
    · rw [if_pos h1, if_pos (List.mem_cons_of_mem _ h1)]
    · rw [if_neg h1]
      by_cases h2 : j = k
      · rw [if_pos h2, if_pos (by simp [h2])]
      · rw [if_neg h2, if_neg (by simp [h1, h2])]
theorem frozen_not {l : List Nat} : ∀ {st : Store} {k : Nat}, k ∈ l → ∀ e xs, (st.freezes l).get k ≠ some (.row e xs) := by
  induction l with
  | nil => intro st k hm; cases hm
  | cons i r ih =>
    intro st k hm e xs hc
    simp only [Store.freezes] at hc
    by_cases hmr : k ∈ r
    · exact ih hmr e xs hc
    · have hji : k = i := by
        rcases List.mem_cons.1 hm with h' | h'
        · exact h'
        · exact absurd h' hmr
      subst hji
      rcases get_freezes r (st.freeze k) k with h' | ⟨_, _, _, h', hm'⟩
      · rw [h'] at hc
        unfold Store.freeze at hc
        split at hc
        · rw [get_put] at hc
          simp at hc
        · rename_i hno
          exact hno e xs hc
      · exact hmr hm'
theorem leaf_pre {t : Ty} {cs r : List AV} {x : t.den} (h : leafOf st t cs = some (x, r)) {G : List AV → Option (t.den × List AV)} (hG : ∀ l, G l = leafOf st t l) : ∃ p, cs = p ++ r ∧ ∀ r', G (p ++ r') = some (x, r') := by
  cases cs with
  | nil => cases h
  | cons c l =>
    simp only [leafOf, Option.map_eq_some_iff, Prod.mk.injEq] at h
    obtain ⟨y, hy, rfl, rfl⟩ := h
    exact ⟨[c], rfl, fun r' => by rw [hG]; simp [leafOf, hy]⟩
theorem gather_pre : ∀ {t : Ty} {cs r : List AV} {x : t.den}, gather st t cs = some (x, r) → ∃ p, cs = p ++ r ∧ ∀ r', gather st t (p ++ r') = some (x, r')
  | .unit, cs, r, x, h => by
    simp only [gather, Option.some.injEq, Prod.mk.injEq] at h
    exact ⟨[], by simp [h.2], fun r' => rfl⟩
  | .one a, cs, r, x, h => by
    simp only [gather] at h
    obtain ⟨p, h1, h2⟩ := gather_pre h
    exact ⟨p, h1, fun r' => by simp only [gather]; exact h2 r'⟩
  | .pair a b, cs, r, x, h => by
    simp only [gather] at h
    split at h
    · rename_i y r1 h1
      split at h
      · rename_i z r2 h2
        simp only [Option.some.injEq, Prod.mk.injEq] at h
        obtain ⟨rfl, rfl⟩ := h
        obtain ⟨p, rfl, k1⟩ := gather_pre h1
        obtain ⟨q, rfl, k2⟩ := gather_pre h2
        exact ⟨p ++ q, by simp, fun r' => by simp only [gather]; rw [List.append_assoc, k1]; simp only; rw [k2]⟩
      · cases h
    · cases h
  | .int _, cs, r, x, h => leaf_pre (by simpa only [gather] using h) fun r' => by simp only [gather]
  | .bool, cs, r, x, h => leaf_pre (by simpa only [gather] using h) fun r' => by simp only [gather]
  | .f64, cs, r, x, h => leaf_pre (by simpa only [gather] using h) fun r' => by simp only [gather]
  | .str, cs, r, x, h => leaf_pre (by simpa only [gather] using h) fun r' => by simp only [gather]
  | .sl _, cs, r, x, h => leaf_pre (by simpa only [gather] using h) fun r' => by simp only [gather]
  | .box _, cs, r, x, h => leaf_pre (by simpa only [gather] using h) fun r' => by simp only [gather]
  | .mp _ _, cs, r, x, h => leaf_pre (by simpa only [gather] using h) fun r' => by simp only [gather]
  | .trie, cs, r, x, h => leaf_pre (by simpa only [gather] using h) fun r' => by simp only [gather]
theorem gather_take {t : Ty} {cs r : List AV} {x : t.den} (h : gather st t cs = some (x, r)) (hr : r = cs.drop t.size) (hl : t.size ≤ cs.length) : gather st t (cs.take t.size) = some (x, []) := by
  obtain ⟨p, h1, h2⟩ := gather_pre h
  have hlen : p.length = t.size := by
    have := congrArg List.length h1
    rw [hr] at this
    simp at this
    omega
  have := h2 []
  rw [List.append_nil] at this
  rw [h1, ← hlen, List.take_left']
  · exact this
  · rfl
theorem gather_drop {t : Ty} {cs r : List AV} {x : t.den} (h : StRel w S0 hv st) {vs : List Value} (hr : All2 (CRep w (All S0 hv st) hv) cs vs) (hx : gather st t cs = some (x, r)) : r = cs.drop t.size ∧ t.size ≤ cs.length := by
  obtain ⟨v1, v2, e, h1, h2, _⟩ := gather_rep h (T := fun _ => False) (fun _ h => h.elim) hr hx (fun _ _ _ _ _ _ _ _ _ h => h)
  have hl := h1.length
  have hlen := hr.length
  have hl2 := h2.length
  obtain ⟨p, rfl⟩ := gather_suffix hx
  rw [e] at hlen
  simp only [List.length_append] at hlen
  have : p.length = t.size := by omega
  refine ⟨?_, by simp; omega⟩
  rw [← this]
  simp
theorem row_own {e : Ty} {xs : List e.den} {v : Value} {b : Nat} {S : Nat → Prop} (h : RowRep w S v e xs) (hb : b ∈ rowBlk v) : blk (.row e xs) v = some b := by
  rcases h with ⟨A, rfl, _⟩ | ⟨b', o', cap, vs, ty, rfl, h0, _⟩
  · cases A <;> simp [rowBlk] at hb
  · simp only [rowBlk, h0, if_true, List.mem_singleton] at hb
    simp [blk, h0, hb]
theorem RowRep.narrow {T : Nat → Prop} (hT : ∀ b, T b → S b) {v : Value} {e : Ty} {xs : List e.den} (h : RowRep w S v e xs) : RowRep w T v e xs := h.step ((StepOk.refl _ _).sub hT) fun _ _ => rfl
theorem rowBlk_nodup (v : Value) : (rowBlk v).Nodup := by
  unfold rowBlk
  split
  · split <;> simp
  · simp
theorem row_part {e : Ty} {xs : List e.den} {A A' : Option Addr} {len cap cap' lo n : Nat} (h : RowRep w S (.slice A len cap) e xs) (hn : lo + n ≤ len) (hlc : len ≤ cap) (hc : cap' = cap - lo) (hA0 : 0 < n → ∃ b o, A = some ⟨b, o, none⟩)
    (hA : 0 < cap' → ∀ b o, A = some ⟨b, o, none⟩ → A' = some ⟨b, o + lo * e.size, none⟩) : RowRep w S (.slice A' n cap') e ((xs.drop lo).take n) ∧ ∀ b ∈ rowBlk (.slice A' n cap'), b ∈ rowBlk (.slice A len cap) := by
  rcases h with ⟨B, h', rfl⟩ | ⟨b, off, cap1, vs, ty, h', g1, g2, g3, g4, g5⟩
  · injection h' with h1 h2 h3
    subst h1 h2 h3
    have : n = 0 := by omega
    subst this
    have : cap' = 0 := by omega
    subst this
    exact ⟨.inl ⟨A', rfl, by simp⟩, fun b hb => by cases A' <;> simp [rowBlk] at hb⟩
  · injection h' with h1 h2 h3
    subst h1 h2 h3
    have hzl : ((xs.drop lo).take n).length = n := by simp; omega
    rcases Nat.eq_zero_or_pos cap' with h0 | h0
    · subst h0
      have : n = 0 := by omega
      subst this
      exact ⟨.inl ⟨A', rfl, by simp⟩, fun b hb => by cases A' <;> simp [rowBlk] at hb⟩
    · have hA' := hA h0 b off rfl
      subst hA'
      refine ⟨.inr ⟨b, off + lo * e.size, cap', vs, ty, by rw [hzl], h0, by rw [hzl]; omega, g3, ?_, ?_⟩, fun c hc' => ?_⟩
      · have : lo * e.size + cap' * e.size = cap * e.size := by rw [← Nat.add_mul]; congr 1; omega
        omega
      · intro j z hz
        have hj : j < n := by
          have := (List.getElem?_eq_some_iff.1 hz).1
          omega
        rw [List.getElem?_take, if_pos hj, List.getElem?_drop] at hz
        obtain ⟨es, p1, p2⟩ := g5 _ z hz
        refine ⟨es, p1, fun c d hd => ?_⟩
        have := p2 c d hd
        rw [Nat.add_mul] at this
        rw [← this]
        congr 1
        omega
      · simp only [rowBlk, h0, if_true, List.mem_singleton] at hc'
        simp [rowBlk, g1, hc']
def OwnedBy (hv : Hv) (st : Store) (ks : List Nat) (b : Nat) : Prop := ∃ k ∈ ks, ∃ o v, st.get k = some o ∧ hv k = some v ∧ Bk (hv.ft k) o v b
theorem rdD_rep (h : StRel w S0 hv st) : ∀ {d : DT} {cs : List AV} {vs : List Value} {x : d.den} {ks : List Nat} {r : List AV}, All2 (CRep w (All S0 hv st) hv) cs vs →
    rdD st d cs = some (x, ks, r) → ∃ v1 v2 F, vs = v1 ++ v2 ∧ (∀ T : Nat → Prop, (∀ b, T b → All S0 hv st b) → Free hv st (frzD d cs) T → DRep w T d x v1 F) ∧ All2 (CRep w (All S0 hv st) hv) r v2 ∧ r = cs.drop d.size ∧ (∀ b ∈ F, OwnedBy hv st ks b) ∧ (ks.Nodup → F.Nodup)
  | .val t, cs, vs, x, ks, r, hr, hx => by
    simp only [rdD] at hx
    split at hx
    · rename_i y r' hg
      simp only [Option.some.injEq, Prod.mk.injEq] at hx
      obtain ⟨rfl, rfl, rfl⟩ := hx
      obtain ⟨hd, hle⟩ := gather_drop h hr hg
      obtain ⟨v1, v2, e, h1, h2, _⟩ := gather_rep h (T := fun _ => False) (fun _ h => h.elim) hr hg (fun _ _ _ _ _ _ _ _ _ h => h)
      have hl := h1.length
      have hv2 : v2.length = (cs.drop t.size).length := by rw [← hd]; exact h2.length.symm
      have hrt : All2 (CRep w (All S0 hv st) hv) (cs.take t.size) v1 := by
        have h0 := hr.take t.size
        have h1 : vs.take t.size = v1 := by rw [e, List.take_append_of_le_length (Nat.le_of_eq hl.symm), List.take_of_length_le (Nat.le_of_eq hl)]
        rw [h1] at h0
        exact h0
      have hgt := gather_take hg hd hle
      refine ⟨v1, v2, [], e, fun T hT hf => ?_, h2, hd, fun b hb => (by cases hb), fun _ => List.nodup_nil⟩
      obtain ⟨w1, w2, e2, g1, g2, _⟩ := gather_rep h hT hrt hgt hf
      have hw2 : w2 = [] := List.eq_nil_of_length_eq_zero g2.length.symm
      subst hw2
      rw [List.append_nil] at e2
      subst e2
      exact ⟨g1, rfl⟩
    · cases hx
  | .row e, [], vs, x, ks, r, hr, hx => by simp [rdD] at hx
  | .row e, c :: cs, v :: vs, x, ks, r, hr, hx => by
    simp only [rdD] at hx
    split at hx
    · rename_i k
      split at hx
      · rename_i xs hxs
        simp only [Option.some.injEq, Prod.mk.injEq] at hx
        obtain ⟨rfl, rfl, rfl⟩ := hx
        have hg := wrow_get hxs
        obtain ⟨u, h1, hob⟩ := h.objs _ _ hg
        have hvu : v = u := Option.some.inj (hr.1.1.1.symm.trans h1)
        subst hvu
        exact ⟨[v], vs, _, rfl, fun T hT _ => ⟨v, rfl, RowRep.narrow hT hob, rfl⟩, hr.2, rfl, fun b hb => ⟨k, by simp, _, v, hg, h1, row_own hob hb⟩, fun _ => rowBlk_nodup v⟩
      · cases hx
    · simp only [Option.some.injEq, Prod.mk.injEq] at hx
      obtain ⟨rfl, rfl, rfl⟩ := hx
      have hv0 : v = .slice none 0 0 := hr.1.1
      subst hv0
      exact ⟨[_], vs, [], rfl, fun T hT _ => ⟨_, rfl, .inl ⟨none, rfl, rfl⟩, rfl⟩, hr.2, rfl, fun b hb => (by cases hb), fun _ => List.nodup_nil⟩
    · rename_i k sz lo n
      split at hx
      · rename_i hsz
        subst hsz
        split at hx
        · rename_i xs hxs
          simp only [Option.some.injEq, Prod.mk.injEq] at hx
          obtain ⟨rfl, rfl, rfl⟩ := hx
          have hg := wrow_get hxs
          obtain ⟨u, h1, hob⟩ := h.objs _ _ hg
          obtain ⟨A, len, cap, A', cap', hk, hlo, hlc, hcap, hA0, hA, rfl⟩ := hr.1.1
          rw [h1] at hk
          injection hk with hk
          subst hk
          obtain ⟨p1, p2⟩ := row_part hob hlo hlc hcap hA0 hA
          exact ⟨[_], vs, _, rfl, fun T hT _ => ⟨_, rfl, RowRep.narrow hT p1, rfl⟩, hr.2, rfl, fun b hb => ⟨k, by simp, _, _, hg, h1, row_own hob (p2 b hb)⟩, fun _ => rowBlk_nodup _⟩
        · cases hx
      · cases hx
    · cases hx
  | .map kt vt, [], vs, x, ks, r, hr, hx => by simp [rdD] at hx
  | .map kt vt, c :: cs, v :: vs, x, ks, r, hr, hx => by
    simp only [rdD] at hx
    split at hx
    · rename_i k
      split at hx
      · rename_i p hp
        simp only [Option.some.injEq, Prod.mk.injEq] at hx
        obtain ⟨rfl, rfl, rfl⟩ := hx
        obtain ⟨k', v', l, hg, e, he⟩ := map_read hp
        injection e with e1 e2
        subst e1 e2
        have he : l = p.1 := he
        obtain ⟨u, h1, b, es, rfl, hw, hin⟩ := h.objs _ _ hg
        have hvu : v = .map (some b) := Option.some.inj (hr.1.1.1.symm.trans h1)
        subst hvu
        refine ⟨[_], vs, [b], rfl, fun T hT _ => ⟨b, es, rfl, hw, ?_, rfl⟩, hr.2, rfl, fun c hc => ⟨k, by simp, _, _, hg, h1, ?_⟩, fun _ => by simp⟩
        · rw [← he]
          exact hin.step ((StepOk.refl _ _).sub hT)
        · rw [List.mem_singleton] at hc
          subst hc
          rfl
      · cases hx
    · cases hx
  | .box d, [], vs, x, ks, r, hr, hx => by simp [rdD] at hx
  | .box d, c :: cs, v :: vs, x, ks, r, hr, hx => by
    simp only [rdD] at hx
    split at hx
    · rename_i k
      split at hx
      · rename_i y hy
        simp only [Option.some.injEq, Prod.mk.injEq] at hx
        obtain ⟨rfl, rfl, rfl⟩ := hx
        have hg := deepGet_get hy
        obtain ⟨u, h1, _⟩ := h.objs _ _ hg
        obtain ⟨b, rfl⟩ := deep_ptr h hg rfl h1
        have := ref_ptr (w := w) (S := All S0 hv st) hr.1.1 h1 fun a n c e => by cases e
        subst this
        obtain ⟨p1, p2⟩ := h.deep k _ y _ hg h1
        exact ⟨[_], vs, _, rfl, fun T hT _ => p1.step ((StepOk.refl _ _).sub hT) fun _ _ => rfl, hr.2, rfl, fun c hc => ⟨k, by simp, _, _, hg, h1, hc⟩, fun _ => p2⟩
      · cases hx
    · cases hx
  | .pair a b, cs, vs, x, ks, r, hr, hx => by
    simp only [rdD] at hx
    split at hx
    · rename_i y ks1 r1 h1
      split at hx
      · rename_i z ks2 r2 h2
        simp only [Option.some.injEq, Prod.mk.injEq] at hx
        obtain ⟨rfl, rfl, rfl⟩ := hx
        obtain ⟨v1, v2, F1, rfl, q1, q2, q3, q4, q5⟩ := rdD_rep h hr h1
        subst q3
        obtain ⟨v3, v4, F2, rfl, p1, p2, p3, p4, p5⟩ := rdD_rep h q2 h2
        refine ⟨v1 ++ v3, v4, F1 ++ F2, by simp, fun T hT hf => ⟨v1, v3, F1, F2, rfl, rfl, q1 T hT (hf.sub fun k hk => by simp only [frzD, List.mem_append]; exact .inl hk), p1 T hT (hf.sub fun k hk => by simp only [frzD, List.mem_append]; exact .inr hk)⟩, p2, ?_, fun c hc => ?_, fun hn => ?_⟩
        · rw [p3, List.drop_drop]
          rfl
        · rcases List.mem_append.1 hc with hc | hc
          · obtain ⟨k, hk, z⟩ := q4 c hc
            exact ⟨k, List.mem_append_left _ hk, z⟩
          · obtain ⟨k, hk, z⟩ := p4 c hc
            exact ⟨k, List.mem_append_right _ hk, z⟩
        · rw [List.nodup_append] at hn ⊢
          refine ⟨q5 hn.1, p5 hn.2.1, fun c hc c' hc' e => ?_⟩
          subst e
          obtain ⟨k, hk, o, v, z1, z2, z3⟩ := q4 c hc
          obtain ⟨k', hk', o', v', z1', z2', z3'⟩ := p4 c hc'
          exact hn.2.2 k hk k' hk' (h.inj _ _ _ _ _ _ _ z1 z2 z3 z1' z2' z3')
      · cases hx
    · cases hx
  | .unit, cs, vs, x, ks, r, hr, hx => by
    simp only [rdD, Option.some.injEq, Prod.mk.injEq] at hx
    obtain ⟨_, rfl, rfl⟩ := hx
    exact ⟨[], vs, [], rfl, fun _ _ _ => ⟨rfl, rfl⟩, hr, rfl, fun b hb => (by cases hb), fun _ => List.nodup_nil⟩
  | .drow d, [], vs, x, ks, r, hr, hx => by simp [rdD] at hx
  | .trie, [], vs, x, ks, r, hr, hx => by simp [rdD] at hx
  | .drow d, c :: cs, v :: vs, x, ks, r, hr, hx => by
    simp only [rdD] at hx
    split at hx
    · rename_i k
      split at hx
      · rename_i y hy
        simp only [Option.some.injEq, Prod.mk.injEq] at hx
        obtain ⟨rfl, rfl, rfl⟩ := hx
        have hg := deepGet_get hy
        obtain ⟨p1, p2⟩ := h.deep k _ y v hg hr.1.1.1
        exact ⟨[_], vs, _, rfl, fun T hT _ => p1.step ((StepOk.refl _ _).sub hT) fun _ _ => rfl, hr.2, rfl, fun c hc => ⟨k, by simp, _, _, hg, hr.1.1.1, hc⟩, fun _ => p2⟩
      · cases hx
    · cases hx
  | .trie, c :: cs, v :: vs, x, ks, r, hr, hx => by
    simp only [rdD] at hx
    split at hx
    · rename_i k
      split at hx
      · rename_i y hy
        simp only [Option.some.injEq, Prod.mk.injEq] at hx
        obtain ⟨rfl, rfl, rfl⟩ := hx
        have hg := deepGet_get hy
        obtain ⟨p1, p2⟩ := h.deep k _ y v hg hr.1.1.1
        exact ⟨[_], vs, _, rfl, fun T hT _ => p1.step ((StepOk.refl _ _).sub hT) fun _ _ => rfl, hr.2, rfl, fun c hc => ⟨k, by simp, _, _, hg, hr.1.1.1, hc⟩, fun _ => p2⟩
      · cases hx
    · cases hx
theorem StRel.fold (h : StRel w S0 hv st) {k : Nat} {d : DT} {st' : Store} (hf : foldAt st k d = some st') : ∃ hv' : Hv, hv'.val = hv.val ∧ StRel w S0 hv' st' ∧ (∀ b, Own hv' st' b → Own hv st b) ∧ (∃ x, st'.get k = some (.deep (.box d) x)) ∧ ∀ j sl, st'.get j = some (.ghost sl) → st.get j = some (.ghost sl) := by
  unfold foldAt at hf
  split at hf
  · rename_i cs hg
    obtain ⟨st1, hst1⟩ : ∃ s, s = st.freezes (frzD d cs) := ⟨_, rfl⟩
    rw [← hst1] at hf
    split at hf
    · rename_i x ks hx
      cases hc1 : nodupB (k :: ks) with
      | false => rw [hc1] at hf; cases hf
      | true =>
        rw [hc1] at hf
        simp only [cond_true, Option.some.injEq] at hf
        have hnd := List.nodup_cons.1 (nodupB_sound hc1)
        obtain ⟨f1, f2⟩ := freezes_rel (frzD d cs) h
        rw [← hst1] at f1 f2
        have hg1 : st1.get k = some (.cells cs) := by
          rcases get_freezes (frzD d cs) st k with q | ⟨e, xs, q, _⟩
          · rw [hst1, q, hg]
          · rw [hg] at q
            cases q
        obtain ⟨u, hu, b0, us, ty, rfl, hw, hcs⟩ := f1.objs _ _ hg1
        have hfree : ∀ T : Nat → Prop, Free hv st1 (frzD d cs) T := fun T j hj e xs v b q => absurd q (by rw [hst1]; exact frozen_not hj e xs)
        obtain ⟨v1, v2, F, e1, hDR, hr2, _, hF1, hF2⟩ := rdD_rep f1 hcs hx
        have hvv : v2 = [] := List.eq_nil_of_length_eq_zero hr2.length.symm
        subst hvv
        rw [List.append_nil] at e1
        have hF2 := hF2 hnd.2
        have hb0 : b0 ∉ F := fun hb => by
          obtain ⟨j, hj, o, v, z1, z2, z3⟩ := hF1 b0 hb
          have := f1.inj _ _ _ _ _ _ b0 z1 z2 z3 hg1 hu (by show blk _ _ = some b0; rfl)
          subst this
          exact hnd.1 hj
        obtain ⟨hv', hval, hftk, hft⟩ : ∃ hv' : Hv, hv'.val = hv.val ∧ hv'.ft k = b0 :: F ∧ ∀ j, j ≠ k → hv'.ft j = hv.ft j := ⟨⟨hv.val, fun j => if j = k then b0 :: F else hv.ft j⟩, rfl, if_pos rfl, fun j hj => if_neg hj⟩
        have hv'e : ∀ j, hv' j = hv j := fun j => by rw [hval]
        have hcase : ∀ j o, st'.get j = some o → (j = k ∧ o = .deep (.box d) x) ∨ (j ≠ k ∧ j ∉ ks ∧ st1.get j = some o) := fun j o hj => by
          rw [← hf, get_put] at hj
          split at hj
          · rename_i e
            injection hj with hj
            exact .inl ⟨e, hj.symm⟩
          · rename_i e
            rw [get_eraseAll] at hj
            split at hj
            · cases hj
            · rename_i hjk
              exact .inr ⟨e, hjk, hj⟩
        have hbk : ∀ j o v b, st'.get j = some o → hv' j = some v → Bk (hv'.ft j) o v b → (j = k ∧ (b = b0 ∨ b ∈ F)) ∨ (j ≠ k ∧ j ∉ ks ∧ st1.get j = some o ∧ hv j = some v ∧ Bk (hv.ft j) o v b) := fun j o v b g1 g2 g3 => by
          rcases hcase j o g1 with ⟨rfl, rfl⟩ | ⟨q0, q1, q2⟩
          · have g3 : b ∈ hv'.ft j := g3
            rw [hftk] at g3
            exact .inl ⟨rfl, List.mem_cons.1 g3⟩
          · exact .inr ⟨q0, q1, q2, (hv'e j) ▸ g2, (hft j q0) ▸ g3⟩
        have hkown : ∀ b, b = b0 ∨ b ∈ F → ∃ j, (j = k ∨ j ∈ ks) ∧ ∃ o v, st1.get j = some o ∧ hv j = some v ∧ Bk (hv.ft j) o v b := fun b hb => by
          rcases hb with rfl | hb
          · exact ⟨k, .inl rfl, _, _, hg1, hu, rfl⟩
          · obtain ⟨j, hj, z⟩ := hF1 b hb
            exact ⟨j, .inr hj, z⟩
        have hown1 : ∀ b, Own hv' st' b → Own hv st1 b := fun b ⟨j, o, v, g1, g2, g3⟩ => by
          rcases hbk j o v b g1 g2 g3 with ⟨_, hb⟩ | ⟨_, _, q1, q2, q3⟩
          · obtain ⟨j', _, o', v', z⟩ := hkown b hb
            exact ⟨j', o', v', z⟩
          · exact ⟨j, o, v, q1, q2, q3⟩
        have hown : ∀ b, Own hv' st' b → Own hv st b := fun b hb => f2 b (hown1 b hb)
        have hsub : ∀ b, All S0 hv' st' b → All S0 hv st1 b := fun b hb => hb.imp id (hown1 b)
        have hs : StepOk w (All S0 hv st1) w (All S0 hv' st') := (StepOk.refl _ _).sub hsub
        have hle : hv.le hv' := fun j v hj => by rw [hv'e]; exact hj
        refine ⟨hv', hval, ⟨fun j o hj => ?_, fun j o v j' o' v' b g1 g2 g3 g4 g5 g6 => ?_, fun b hb => h.out b (hown b hb), fun j d' x' v hj hv1 => ?_, fun j t i hj => ?_⟩, hown, ⟨x, by rw [← hf, get_put, if_pos rfl]⟩, fun j sl hj => ?_⟩
        · rcases hcase j o hj with ⟨rfl, rfl⟩ | ⟨q0, q1, q2⟩
          · exact ⟨_, (hv'e j).trans hu, trivial⟩
          · obtain ⟨v, p1, p2⟩ := f1.objs j o q2
            exact ⟨v, (hv'e j).trans p1, p2.step hs hle fun _ _ => rfl⟩
        · rcases hbk j o v b g1 g2 g3 with ⟨rfl, hb⟩ | ⟨q0, q1, q2, q3, q4⟩
          · rcases hbk j' o' v' b g4 g5 g6 with ⟨rfl, _⟩ | ⟨q0', q1', q2', q3', q4'⟩
            · rfl
            · obtain ⟨i, hi, o1, v1, z1, z2, z3⟩ := hkown b hb
              have := f1.inj _ _ _ _ _ _ b z1 z2 z3 q2' q3' q4'
              subst this
              rcases hi with hi | hi
              · exact absurd hi q0'
              · exact absurd hi q1'
          · rcases hbk j' o' v' b g4 g5 g6 with ⟨rfl, hb⟩ | ⟨q0', q1', q2', q3', q4'⟩
            · obtain ⟨i, hi, o1, v1, z1, z2, z3⟩ := hkown b hb
              have := f1.inj _ _ _ _ _ _ b z1 z2 z3 q2 q3 q4
              subst this
              rcases hi with hi | hi
              · exact absurd hi q0
              · exact absurd hi q1
            · exact f1.inj _ _ _ _ _ _ b q2 q3 q4 q2' q3' q4'
        · rcases hcase j _ hj with ⟨rfl, e⟩ | ⟨q0, q1, q2⟩
          · injection e with e1 e2
            subst e1
            have e2 := eq_of_heq e2
            subst e2
            rw [hv'e, hu] at hv1
            injection hv1 with hv1
            subst hv1
            rw [hftk]
            exact ⟨⟨b0, us, ty, F, rfl, hw, by rw [e1]; exact hDR _ hsub (hfree _), rfl⟩, List.nodup_cons.2 ⟨hb0, hF2⟩⟩
          · rw [hft j q0]
            obtain ⟨p1, p2⟩ := f1.deep j d' x' v q2 ((hv'e j) ▸ hv1)
            exact ⟨p1.step hs fun _ _ => rfl, p2⟩
        · rcases hcase j _ hj with ⟨rfl, e⟩ | ⟨q0, q1, q2⟩
          · cases e
          · obtain ⟨d', xs, v, b, o, len, cap, p1, p2, p3, p4, p5, p6, p7, p8⟩ := f1.ali j t i q2
            exact p8.2.elim
        · rcases hcase j _ hj with ⟨rfl, e⟩ | ⟨q0, q1, q2⟩
          · cases e
          · rcases get_freezes (frzD d cs) st j with q | ⟨e, xs, _, q, _⟩
            · rw [← q, ← hst1]
              exact q2
            · rw [hst1, q] at q2
              cases q2
    · cases hf
  · rename_i d' x hg
    split at hf
    · rename_i e
      subst e
      injection hf with hf
      subst hf
      exact ⟨hv, rfl, h, fun _ h => h, ⟨x, hg⟩, fun _ _ h => h⟩
    · cases hf
  · cases hf
end Go.Ev
end
section
set_option linter.unusedVariables false
set_option linter.unusedSimpArgs false
namespace Go.Ev
open Go.RowKit
variable {P : Program} {E : Env}
theorem get_storeOf : ∀ (l : List Ob) (d j : Nat), (storeOf d l).get j = if d ≤ j then l[j - d]? else none
  | [], d, j => by simp [storeOf, Store.get]
  | o :: r, d, j => by
    simp only [storeOf, Store.get]
    split
    · rename_i h
      subst h
      simp
    · rename_i h
      rw [get_storeOf r (d + 1) j]
      by_cases h1 : d + 1 ≤ j
      · rw [if_pos h1, if_pos (by omega), show j - d = (j - (d + 1)) + 1 by omega, List.getElem?_cons_succ]
      · rw [if_neg h1, if_neg (by omega)]
noncomputable def endStore (sp : BySpec) (r : OTup sp.outs) (x : Data sp.ks) : Store := resStore sp.outs r (keysOf sp.ks) (storeOf 0 (obsOf sp.ks x))
def By (tr : Bool) (P : Program) (f : FuncId) (sp : BySpec) : Prop :=
  ∀ x r x', sp.F x = some (r, x') → ∀ (w : World) (n : Nat) (S0 : Nat → Prop) (hv : Hv) (vals : List Value), n ≤ w.heap.size → (∀ b, S0 b → b < w.heap.size) → StRel w S0 hv (storeOf 0 (obsOf sp.ks x)) →
    All2 (SlotRep w (All S0 hv (storeOf 0 (obsOf sp.ks x))) hv) (slotsOf 0 sp.ks x) vals → (∀ b, Own hv (storeOf 0 (obsOf sp.ks x)) b → n ≤ b) →
    Calls P f vals.toArray w fun e w' => ∃ (v : Value) (vs : List Value) (hv' : Hv), e = .returned v ∧ v = retOf vs ∧ (∀ k, k < keysOf sp.ks → hv' k = hv k) ∧ StRel w' S0 hv' (endStore sp r x') ∧
      All2 (AVRep w' (All S0 hv' (endStore sp r x')) hv') (resAVs sp.outs r (keysOf sp.ks)) vs ∧ (∀ b, Own hv' (endStore sp r x') b → n ≤ b) ∧ Below tr n w w' ∧
      StepOk w (All S0 hv (storeOf 0 (obsOf sp.ks x))) w' (All S0 hv' (endStore sp r x')) ∧ (∀ b, S0 b → w'.heap[b]? = w.heap[b]?) ∧ drop sp.ks x' = x'
theorem capsOb_length : ∀ (cs : List Ty) (x : Tup cs), (capsOb cs x).length = cs.length
  | [], _ => rfl
  | t :: cs, x => by simp [capsOb, capsOb_length cs x.2]
theorem obs_length (k : AK) (x : k.den) : (k.obs x).length = k.keys := by
  cases k <;> simp [AK.obs, AK.keys, capsOb_length]
theorem obsOf_length : ∀ (ks : List AK) (x : Data ks), (obsOf ks x).length = keysOf ks
  | [], _ => rfl
  | k :: r, x => by simp [obsOf, keysOf, obs_length, obsOf_length r x.2]
section
variable {w w' : World} {S S' S0 : Nat → Prop} {hv hv1 hv2 : Hv} {st : Store}
theorem range_all : ∀ (n d : Nat) (l : List Value), (∀ k, d ≤ k → k < d + n → hv1 (k + 1) = hv k) → All2 (fun k v => hv k = some v) (List.range' d n) l → All2 (fun k v => hv1 k = some v) (List.range' (d + 1) n) l
  | 0, d, l, _, h => by cases l <;> first | trivial | exact h.elim
  | n + 1, d, [], _, h => h.elim
  | n + 1, d, v :: l, hh, h => ⟨(hh d (by omega) (by omega)).trans h.1, range_all n (d + 1) l (fun k h1 h2 => hh k (by omega) (by omega)) h.2⟩
theorem slot_shift {d : Nat} (k : AK) (x : k.den) {v : Value} (hh : ∀ j, d ≤ j → j < d + k.keys → hv1 (j + 1) = hv j) (h : SlotRep w S hv (k.slot d x) v) : SlotRep w S hv1 (k.slot (d + 1) x) v := by
  cases k with
  | pure t => exact h
  | row e => exact ⟨(hh d (by omega) (by simp [AK.keys])).trans h.1, h.2⟩
  | cell t =>
    have he := hh d (by omega) (by simp [AK.keys])
    rcases h with ⟨b, h1, h2⟩ | ⟨b, o, len, cap, h1, h2⟩
    · exact .inl ⟨b, he.trans h1, h2⟩
    · exact .inr ⟨b, o, len, cap, he.trans h1, h2⟩
  | fn f cs =>
    obtain ⟨l, hl, e⟩ := h
    exact ⟨l, range_all cs.length d l (fun k h1 h2 => hh k h1 h2) hl, e⟩
  | con t => exact h
  | map k v => exact ⟨(hh d (by omega) (by simp [AK.keys])).trans h.1, h.2⟩
  | give e => exact ⟨(hh d (by omega) (by simp [AK.keys])).trans h.1, h.2⟩
  | deep t => exact ptr_rep (w := w) (S := S) (fun u hu => (hh d (by omega) (by simp [AK.keys])).trans hu) h
theorem slots_shift : ∀ (ks : List AK) (d : Nat) (x : Data ks) (vals : List Value), (∀ j, d ≤ j → j < d + keysOf ks → hv1 (j + 1) = hv j) → All2 (SlotRep w S hv) (slotsOf d ks x) vals → All2 (SlotRep w S hv1) (slotsOf (d + 1) ks x) vals
  | [], d, x, [], _, _ => trivial
  | [], d, x, _ :: _, _, h => h.elim
  | k :: r, d, x, [], _, h => h.elim
  | k :: r, d, x, v :: vs, hh, h => by
    refine ⟨slot_shift k x.1 (fun j h1 h2 => hh j h1 (by simp only [keysOf]; omega)) h.1, ?_⟩
    have := slots_shift r (d + k.keys) x.2 vs (fun j h1 h2 => hh j (by omega) (by simp only [keysOf]; omega)) h.2
    rwa [show d + k.keys + 1 = d + 1 + k.keys by omega] at this
theorem cell_read {t : Ty} {k : Nat} {x : t.den} (h : readCell t k st = some x) : st.get k = some (.cells [.pure t x]) := by
  unfold readCell at h
  split at h
  · rename_i t' x' hg
    split at h
    · rename_i e
      subst e
      injection h with h
      subst h
      exact hg
    · cases h
  · cases h
theorem caps_read : ∀ (cs : List Ty) (ks : List Nat) (x : Tup cs), readCaps st cs ks = some x → ks.length = cs.length ∧ ∀ (i k : Nat), ks[i]? = some k → ∃ ob, (capsOb cs x)[i]? = some ob ∧ st.get k = some ob
  | [], [], _, _ => ⟨rfl, fun i k h => by simp at h⟩
  | [], _ :: _, _, h => by simp [readCaps] at h
  | _ :: _, [], _, h => by simp [readCaps] at h
  | t :: cs, k :: ks, x, h => by
    simp only [readCaps] at h
    split at h
    · rename_i y hy
      split at h
      · rename_i r hr
        injection h with h
        subst h
        obtain ⟨h1, h2⟩ := caps_read cs ks r hr
        refine ⟨by simp [h1], fun i k' hi => ?_⟩
        cases i with
        | zero =>
          simp at hi
          subst hi
          exact ⟨_, rfl, cell_read hy⟩
        | succ i => exact h2 i k' (by simpa using hi)
      · cases h
    · cases h
theorem ref_same {k : Nat} {v : Value} {cs : List AV} (h : AVRep w S hv (.ref k 0 0 0) v) (hg : ∃ u, hv k = some u ∧ ObRep w S hv u (.cells cs)) : hv k = some v := by
  obtain ⟨u, h1, b, vs, ty, rfl, _⟩ := hg
  rcases h with ⟨b', h2, rfl⟩ | ⟨b', o, len, cap, h2, _⟩
  · rw [h1] at h2
    injection h2 with h2
    injection h2 with h2
    injection h2 with h2
    injection h2 with h2
    subst h2
    exact h1
  · rw [h1] at h2
    cases h2
theorem ak_read (k : AK) (d : Nat) (x y : k.den) {kk : List Nat} {g : Slot} {v : Value} (h0 : SlotRep w S hv (k.slot d x) v) (hobj : ∀ (i : Nat) (ob : Ob), (k.obs x)[i]? = some ob → ∃ u, hv (d + i) = some u ∧ ObRep w S hv u ob ∧ ∀ d' x', ob = .deep d' x' → DRep w S d' x' [u] (hv.ft (d + i)))
    (hr : k.read st g = some (y, kk)) (h2 : SlotRep w' (All S0 hv2 st) hv2 g v) (hst : StRel w' S0 hv2 st) :
    kk.length = k.keys ∧ ∀ (i key : Nat), kk[i]? = some key → ∃ ob u, (k.obs y)[i]? = some ob ∧ st.get key = some ob ∧ hv2 key = some u ∧ hv (d + i) = some u := by
  cases k with
  | pure t =>
    simp only [AK.read] at hr
    unfold rdPure at hr
    split at hr
    · cases hb : g.rows.all (stillRow st) with
      | false => rw [hb] at hr; cases hr
      | true =>
        rw [hb] at hr
        injection hr with hr
        injection hr with _ hr
        subst hr
        exact ⟨rfl, fun i key h => by simp at h⟩
    · cases hr
  | con t =>
    simp only [AK.read] at hr
    unfold rdCon at hr
    split at hr
    · split at hr
      · injection hr with hr
        injection hr with _ hr
        subst hr
        exact ⟨rfl, fun i key h => by simp at h⟩
      · cases hr
    · cases hr
  | row e =>
    simp only [AK.read] at hr
    unfold rdRow at hr
    split at hr
    · rename_i k'
      split at hr
      · rename_i xs hxs
        injection hr with hr
        injection hr with hr1 hr2
        subst hr1 hr2
        refine ⟨rfl, fun i key h => ?_⟩
        have hi : i = 0 ∧ k' = key := by
          cases i with
          | zero => simpa using h
          | succ i => simp at h
        obtain ⟨rfl, rfl⟩ := hi
        exact ⟨_, v, rfl, wrow_get hxs, h2.1, h0.1⟩
      · cases hr
    · cases hr
  | cell t =>
    simp only [AK.read] at hr
    unfold rdCell at hr
    split at hr
    · rename_i k'
      split at hr
      · rename_i z hz
        injection hr with hr
        injection hr with hr1 hr2
        subst hr1 hr2
        refine ⟨rfl, fun i key h => ?_⟩
        have hi : i = 0 ∧ k' = key := by
          cases i with
          | zero => simpa using h
          | succ i => simp at h
        obtain ⟨rfl, rfl⟩ := hi
        have hg := cell_read hz
        obtain ⟨u0, z1, z2, _⟩ := hobj 0 _ rfl
        exact ⟨_, v, rfl, hg, ref_same h2 (hst.objs _ _ hg), ref_same h0 ⟨u0, z1, z2⟩⟩
      · cases hr
    · cases hr
  | fn f cs =>
    simp only [AK.read] at hr
    unfold rdFn at hr
    split at hr
    · rename_i f' ks
      cases hb : Nat.beq f' f with
      | false => rw [hb] at hr; cases hr
      | true =>
        rw [hb] at hr
        simp only [cond_true] at hr
        split at hr
        · rename_i z hz
          injection hr with hr
          injection hr with hr1 hr2
          subst hr1 hr2
          obtain ⟨c1, c2⟩ := caps_read cs ks z hz
          obtain ⟨l0, a1, a2⟩ := h0
          obtain ⟨l2, b1, b2⟩ := h2
          rw [a2] at b2
          have hl : l0 = l2 := by simpa using (Value.func.inj b2).2.2
          subst hl
          refine ⟨c1, fun i key h => ?_⟩
          obtain ⟨ob, d1, d2⟩ := c2 i key h
          obtain ⟨u, e1, e2⟩ := b1.get i key h
          have hlt : i < cs.length := by
            have := (List.getElem?_eq_some_iff.1 h).1
            omega
          obtain ⟨u', e3, e4⟩ := a1.get i (d + i) (by rw [List.getElem?_range' hlt]; simp)
          rw [e1] at e3
          injection e3 with e3
          subst e3
          exact ⟨ob, u, d1, d2, e2, e4⟩
        · cases hr
    · cases hr
  | map kt vt =>
    simp only [AK.read] at hr
    unfold rdMap at hr
    split at hr
    · rename_i k'
      split at hr
      · rename_i p hp
        injection hr with hr
        injection hr with hr1 hr2
        subst hr1 hr2
        refine ⟨rfl, fun i key h => ?_⟩
        have hi : i = 0 ∧ k' = key := by
          cases i with
          | zero => simpa using h
          | succ i => simp at h
        obtain ⟨rfl, rfl⟩ := hi
        obtain ⟨k2, v2, l, hg, e, he⟩ := map_read hp
        injection e with e1 e2
        subst e1 e2
        have he : l = p.1 := he
        subst he
        exact ⟨_, v, rfl, hg, h2.1, h0.1⟩
      · cases hr
    · cases hr
  | give e =>
    simp only [AK.read] at hr
    unfold rdGive at hr
    split at hr
    · rename_i k'
      split at hr
      · rename_i xs hxs
        injection hr with hr
        injection hr with hr1 hr2
        subst hr1 hr2
        refine ⟨rfl, fun i key h => ?_⟩
        have hi : i = 0 ∧ k' = key := by
          cases i with
          | zero => simpa using h
          | succ i => simp at h
        obtain ⟨rfl, rfl⟩ := hi
        exact ⟨_, v, rfl, wrow_get hxs, h2.1, h0.1⟩
      · split at hr
        · rename_i hvoid
          injection hr with hr
          injection hr with hr1 hr2
          subst hr1 hr2
          refine ⟨rfl, fun i key h => ?_⟩
          have hi : i = 0 ∧ k' = key := by
            cases i with
            | zero => simpa using h
            | succ i => simp at h
          obtain ⟨rfl, rfl⟩ := hi
          exact ⟨_, v, rfl, hvoid, h2.1, h0.1⟩
        · cases hr
    · cases hr
  | deep t =>
    simp only [AK.read] at hr
    unfold rdDeep at hr
    split at hr
    · rename_i z hz
      injection hr with hr
      injection hr with hr1 hr2
      subst hr1
      obtain ⟨k', q1, q2, q3, q4⟩ := deepAs_rep hst h2 hz
      rw [q1] at hr2
      subst hr2
      refine ⟨rfl, fun i key h => ?_⟩
      have hi : i = 0 ∧ k' = key := by
        cases i with
        | zero => simpa using h
        | succ i => simp at h
      obtain ⟨rfl, rfl⟩ := hi
      refine ⟨_, v, rfl, q2, q3, ?_⟩
      obtain ⟨u0, z1, _, z3⟩ := hobj 0 _ rfl
      have h0 : AVRep w S hv (t.ptr d) v := h0
      unfold DT.ptr at h0
      cases hb : t.isBox with
      | false =>
        rw [hb] at h0
        exact h0.1
      | true =>
        rw [hb] at h0
        have hd := z3 t x rfl
        cases t with
        | box t' =>
          obtain ⟨b, us, ty, F', e1, _⟩ := hd
          injection e1 with e1
          subst e1
          have := ref_ptr (w := w) (S := S) h0 z1 fun a n c e => by cases e
          subst this
          exact z1
        | _ => cases hb
    · cases hr
theorem by_read : ∀ (ks : List AK) (d : Nat) (x y : Data ks) (kk : List Nat) (gs : List Slot) (vals : List Value), All2 (SlotRep w S hv) (slotsOf d ks x) vals → (∀ (i : Nat) (ob : Ob), (obsOf ks x)[i]? = some ob → ∃ u, hv (d + i) = some u ∧ ObRep w S hv u ob ∧ ∀ d' x', ob = .deep d' x' → DRep w S d' x' [u] (hv.ft (d + i))) →
    readBy st ks gs = some (y, kk) → All2 (SlotRep w' (All S0 hv2 st) hv2) gs vals → StRel w' S0 hv2 st →
    kk.length = keysOf ks ∧ ∀ (i key : Nat), kk[i]? = some key → ∃ ob u, (obsOf ks y)[i]? = some ob ∧ st.get key = some ob ∧ hv2 key = some u ∧ hv (d + i) = some u
  | [], d, x, y, kk, [], [], _, _, hr, _, _ => by
    simp only [readBy, Option.some.injEq, Prod.mk.injEq] at hr
    obtain ⟨_, rfl⟩ := hr
    exact ⟨rfl, fun i key h => by simp at h⟩
  | [], d, x, y, kk, _ :: _, _, _, _, hr, _, _ => by simp [readBy] at hr
  | [], d, x, y, kk, [], _ :: _, _, _, _, h, _ => h.elim
  | _ :: _, d, x, y, kk, [], _, _, _, hr, _, _ => by simp [readBy] at hr
  | _ :: _, d, x, y, kk, _ :: _, [], h, _, _, _, _ => h.elim
  | k :: r, d, x, y, kk, g :: gs, v :: vs, h0, hobj, hr, h2, hst => by
    simp only [readBy] at hr
    split at hr
    · rename_i y1 l hy1
      split at hr
      · rename_i y2 m hy2
        simp only [Option.some.injEq, Prod.mk.injEq] at hr
        obtain ⟨rfl, rfl⟩ := hr
        have ho := obs_length k x.1
        obtain ⟨p1, p2⟩ := ak_read k d x.1 y1 h0.1 (fun i ob hi => hobj i ob (by
          show (k.obs x.1 ++ obsOf r x.2)[i]? = some ob
          rw [List.getElem?_append_left (List.getElem?_eq_some_iff.1 hi).1]; exact hi)) hy1 h2.1 hst
        obtain ⟨q1, q2⟩ := by_read r (d + k.keys) x.2 y2 m gs vs h0.2 (fun i ob hi => by
          have := hobj (k.keys + i) ob (by
            show (k.obs x.1 ++ obsOf r x.2)[k.keys + i]? = some ob
            rw [List.getElem?_append_right (by omega), ho, Nat.add_sub_cancel_left]; exact hi)
          rwa [← Nat.add_assoc] at this) hy2 h2.2 hst
        have ho' := obs_length k y1
        refine ⟨by simp [keysOf, p1, q1], fun i key hi => ?_⟩
        show ∃ ob u, (k.obs y1 ++ obsOf r y2)[i]? = some ob ∧ _
        by_cases hlt : i < l.length
        · rw [List.getElem?_append_left hlt] at hi
          rw [List.getElem?_append_left (by omega)]
          exact p2 i key hi
        · rw [List.getElem?_append_right (by omega)] at hi
          rw [List.getElem?_append_right (by omega), ho', ← p1]
          obtain ⟨ob, u, z1, z2, z3, z4⟩ := q2 _ key hi
          exact ⟨ob, u, z1, z2, z3, by rw [show d + i = d + k.keys + (i - l.length) by omega]; exact z4⟩
      · cases hr
    · cases hr
end
theorem slotsOf_length : ∀ (ks : List AK) (d : Nat) (x : Data ks), (slotsOf d ks x).length = ks.length
  | [], _, _ => rfl
  | k :: r, d, x => by simp [slotsOf, slotsOf_length r _ x.2]
theorem capsOb_kind : ∀ (cs : List Ty) (x : Tup cs), ∀ ob ∈ capsOb cs x, ∃ t z, ob = .cells [.pure t z]
  | [], _, ob, h => by simp [capsOb] at h
  | t :: cs, x, ob, h => by
    rcases List.mem_cons.1 h with rfl | h
    · exact ⟨_, _, rfl⟩
    · exact capsOb_kind cs x.2 ob h
def Thing (ob : Ob) : Prop := (∃ e xs, ob = .row e xs) ∨ (∃ t z, ob = .cells [.pure t z]) ∨ (∃ k v l c, ob = .map k v l c) ∨ (∃ d x, ob = .deep d x) ∨ ob = .void
theorem obsOf_kind : ∀ (ks : List AK) (x : Data ks), ∀ ob ∈ obsOf ks x, Thing ob
  | [], _, ob, h => by simp [obsOf] at h
  | k :: r, x, ob, h => by
    rcases List.mem_append.1 h with h | h
    · cases k with
      | pure t => simp [AK.obs] at h
      | row e => simp only [AK.obs, List.mem_singleton] at h; exact .inl ⟨_, _, h⟩
      | cell t => simp only [AK.obs, List.mem_singleton] at h; exact .inr (.inl ⟨_, _, h⟩)
      | fn f cs => exact .inr (.inl (capsOb_kind cs x.1 ob h))
      | con t => simp [AK.obs] at h
      | map kt vt => simp only [AK.obs, List.mem_singleton] at h; exact .inr (.inr (.inl ⟨_, _, _, _, h⟩))
      | deep t => simp only [AK.obs, List.mem_singleton] at h; exact .inr (.inr (.inr (.inl ⟨_, _, h⟩)))
      | give e =>
        obtain ⟨x1, x2⟩ := x
        simp only [AK.obs, List.mem_singleton] at h
        cases x1 with
        | none => exact .inr (.inr (.inr (.inr h)))
        | some xs => exact .inl ⟨_, _, h⟩
    · exact obsOf_kind r x.2 ob h
theorem Thing.hv_free {w : World} {S : Nat → Prop} {hv hv' : Hv} {v : Value} {ob : Ob} (hm : Thing ob) (h : ObRep w S hv v ob) : ObRep w S hv' v ob := by
  rcases hm with ⟨e, xs, rfl⟩ | ⟨t, z, rfl⟩ | ⟨kt, vt, l, c, rfl⟩ | ⟨d, x, rfl⟩ | rfl
  · exact h
  · obtain ⟨b, vs, ty, h1, h2, h3⟩ := h
    refine ⟨b, vs, ty, h1, h2, ?_⟩
    revert h3
    generalize vs.toList = l
    intro h3
    match l, h3 with
    | [v], h3 => exact ⟨h3.1, trivial⟩
  · exact h
  · exact h
  · exact h
theorem Thing.not_ghost {ob : Ob} (h : Thing ob) (sl : List Slot) : ob ≠ .ghost sl := by
  rcases h with ⟨e, xs, rfl⟩ | ⟨t, z, rfl⟩ | ⟨kt, vt, l, c, rfl⟩ | ⟨d, x, rfl⟩ | rfl <;> (intro e; cases e)
theorem Thing.not_alias {ob : Ob} (h : Thing ob) (j i : Nat) : ob ≠ .alias j i := by
  rcases h with ⟨e, xs, rfl⟩ | ⟨t, z, rfl⟩ | ⟨kt, vt, l, c, rfl⟩ | ⟨d, x, rfl⟩ | rfl <;> (intro e; cases e)
theorem ObRep.hv_free {w : World} {S : Nat → Prop} {hv hv' : Hv} {v : Value} {ks : List AK} {x : Data ks} {ob : Ob} (hm : ob ∈ obsOf ks x) (h : ObRep w S hv v ob) : ObRep w S hv' v ob := (obsOf_kind ks x ob hm).hv_free h
theorem get_mem {l : List Ob} {d j : Nat} {ob : Ob} (h : (storeOf d l).get j = some ob) : ob ∈ l := by
  rw [get_storeOf] at h
  split at h
  · exact List.mem_of_getElem? h
  · cases h
section
variable {w : World} {S0 : Nat → Prop}
theorem openAt_rel {hv : Hv} {st : Store} (h : StRel w S0 hv st) (k n : Nat) (hfr : ∀ j, n ≤ j → hv j = none) : ∃ hv' : Hv, StRel w S0 hv' (openAt st k n).1 ∧ hv.le hv' ∧ (∀ j, j < n → hv' j = hv j) ∧ (∀ j, (openAt st k n).2 ≤ j → hv' j = none) ∧ n ≤ (openAt st k n).2 ∧
    (∀ b, Own hv' (openAt st k n).1 b → Own hv st b) ∧ ∀ j sl, (openAt st k n).1.get j = some (.ghost sl) → st.get j = some (.ghost sl) := by
  unfold openAt
  split
  · rename_i d x hg
    obtain ⟨hv', h1, h2, h3, h4, h5⟩ := h.open_ hg (n := n) fun j hj _ => hfr j hj
    exact ⟨hv', h1, h2, fun j hj => (h3 j (by omega)).1, fun j hj => by rw [(h3 j (by omega)).1]; exact hfr j (by omega), Nat.le_add_right _ _, h4, h5⟩
  · exact ⟨hv, h, Hv.le_refl _, fun _ _ => rfl, hfr, Nat.le_refl _, fun _ h => h, fun _ _ h => h⟩
theorem openArgs_rel : ∀ (ks : List AK) (key : Nat) (p : Store × Nat) (hv : Hv), StRel w S0 hv p.1 → (∀ j, p.2 ≤ j → hv j = none) → ∃ hv' : Hv, StRel w S0 hv' (openArgs ks key p).1 ∧ hv.le hv' ∧ (∀ j, j < p.2 → hv' j = hv j) ∧ (∀ j, (openArgs ks key p).2 ≤ j → hv' j = none) ∧ p.2 ≤ (openArgs ks key p).2 ∧
    (∀ b, Own hv' (openArgs ks key p).1 b → Own hv p.1 b) ∧ ∀ j sl, (openArgs ks key p).1.get j = some (.ghost sl) → p.1.get j = some (.ghost sl)
  | [], key, p, hv, h, hf => ⟨hv, h, Hv.le_refl _, fun _ _ => rfl, hf, Nat.le_refl _, fun _ h => h, fun _ _ h => h⟩
  | .deep (.box d) :: r, key, p, hv, h, hf => by
    obtain ⟨hv1, a1, a2, a3, a4, a5, a6, a7⟩ := openAt_rel h key p.2 hf
    obtain ⟨hv2, b1, b2, b3, b4, b5, b6, b7⟩ := openArgs_rel r (key + 1) (openAt p.1 key p.2) hv1 a1 a4
    exact ⟨hv2, b1, fun j v hj => b2 j v (a2 j v hj), fun j hj => (b3 j (by omega)).trans (a3 j hj), b4, Nat.le_trans a5 b5, fun b hb => a6 b (b6 b hb), fun j sl hj => a7 j sl (b7 j sl hj)⟩
  | .deep (.val _) :: r, key, p, hv, h, hf => openArgs_rel r _ p hv h hf
  | .deep (.row _) :: r, key, p, hv, h, hf => openArgs_rel r _ p hv h hf
  | .deep (.map _ _) :: r, key, p, hv, h, hf => openArgs_rel r _ p hv h hf
  | .deep (.pair _ _) :: r, key, p, hv, h, hf => openArgs_rel r _ p hv h hf
  | .deep .unit :: r, key, p, hv, h, hf => openArgs_rel r _ p hv h hf
  | .deep (.drow _) :: r, key, p, hv, h, hf => openArgs_rel r _ p hv h hf
  | .deep .trie :: r, key, p, hv, h, hf => openArgs_rel r _ p hv h hf
  | .pure _ :: r, key, p, hv, h, hf => openArgs_rel r _ p hv h hf
  | .row _ :: r, key, p, hv, h, hf => openArgs_rel r _ p hv h hf
  | .cell _ :: r, key, p, hv, h, hf => openArgs_rel r _ p hv h hf
  | .fn _ _ :: r, key, p, hv, h, hf => openArgs_rel r _ p hv h hf
  | .con _ :: r, key, p, hv, h, hf => openArgs_rel r _ p hv h hf
  | .map _ _ :: r, key, p, hv, h, hf => openArgs_rel r _ p hv h hf
  | .give _ :: r, key, p, hv, h, hf => openArgs_rel r _ p hv h hf
structure Shut (w : World) (S0 : Nat → Prop) (hv : Hv) (st : Store) (hv' : Hv) (st' : Store) : Prop where
  val : hv'.val = hv.val
  rel : StRel w S0 hv' st'
  own : ∀ b, Own hv' st' b → Own hv st b
  gh : ∀ j sl, st'.get j = some (.ghost sl) → st.get j = some (.ghost sl)
theorem Shut.refl {hv : Hv} {st : Store} (h : StRel w S0 hv st) : Shut w S0 hv st hv st := ⟨rfl, h, fun _ h => h, fun _ _ h => h⟩
theorem Shut.trans {hv hv1 hv2 : Hv} {st st1 st2 : Store} (h : Shut w S0 hv st hv1 st1) (h' : Shut w S0 hv1 st1 hv2 st2) : Shut w S0 hv st hv2 st2 :=
  ⟨h'.val.trans h.val, h'.rel, fun b hb => h.own b (h'.own b hb), fun j sl hj => h.gh j sl (h'.gh j sl hj)⟩
theorem Shut.fold {hv : Hv} {st st' : Store} (h : StRel w S0 hv st) {k : Nat} {d : DT} (hf : foldAt st k d = some st') : ∃ hv', Shut w S0 hv st hv' st' := by
  obtain ⟨hv', h1, h2, h3, _, h5⟩ := h.fold hf
  exact ⟨hv', h1, h2, h3, h5⟩
theorem foldArgs_rel : ∀ (ks : List AK) (l : List Slot) (st : Store) (hv : Hv) (st' : Store), StRel w S0 hv st → foldArgs ks l st = some st' → ∃ hv', Shut w S0 hv st hv' st'
  | ks, l, st, hv, st', h, hf => by
    unfold foldArgs at hf
    split at hf
    · rename_i d r a l'
      split at hf
      · split at hf
        · rename_i st1 hst1
          obtain ⟨hv1, c1⟩ := Shut.fold h hst1
          obtain ⟨hv2, c2⟩ := foldArgs_rel r l' st1 hv1 st' c1.rel hf
          exact ⟨hv2, c1.trans c2⟩
        · cases hf
      · cases hf
    · rename_i k r a l' _
      exact foldArgs_rel r l' st hv st' h hf
    · injection hf with hf
      subst hf
      exact ⟨hv, Shut.refl h⟩
theorem foldOuts_rel : ∀ (ks : List OT) (l : List Slot) (st : Store) (hv : Hv) (st' : Store), StRel w S0 hv st → foldOuts ks l st = some st' → ∃ hv', Shut w S0 hv st hv' st'
  | ks, l, st, hv, st', h, hf => by
    unfold foldOuts at hf
    split at hf
    · rename_i d r a l'
      split at hf
      · split at hf
        · rename_i st1 hst1
          obtain ⟨hv1, c1⟩ := Shut.fold h hst1
          obtain ⟨hv2, c2⟩ := foldOuts_rel r l' st1 hv1 st' c1.rel hf
          exact ⟨hv2, c1.trans c2⟩
        · cases hf
      · cases hf
    · rename_i k r a l' _
      exact foldOuts_rel r l' st hv st' h hf
    · injection hf with hf
      subst hf
      exact ⟨hv, Shut.refl h⟩
theorem Shut.step {hv hv' : Hv} {st st' : Store} (h : Shut w S0 hv st hv' st') : StepOk w (All S0 hv st) w (All S0 hv' st') := (StepOk.refl _ _).sub fun b hb => hb.imp id (h.own b)
theorem Shut.le {hv hv' : Hv} {st st' : Store} (h : Shut w S0 hv st hv' st') : hv.le hv' := fun k v hk => by rw [h.val]; exact hk
structure Shut2 (w : World) (S0 : Nat → Prop) (hv : Hv) (st : Store) (hv' : Hv) (st' : Store) : Prop where
  le : hv.le hv'
  rel : StRel w S0 hv' st'
  own : ∀ b, Own hv' st' b → Own hv st b
  gh : ∀ j sl, st'.get j = some (.ghost sl) → st.get j = some (.ghost sl)
theorem Shut.two {hv hv' : Hv} {st st' : Store} (h : Shut w S0 hv st hv' st') : Shut2 w S0 hv st hv' st' := ⟨h.le, h.rel, h.own, h.gh⟩
theorem Shut2.trans {hv hv1 hv2 : Hv} {st st1 st2 : Store} (h : Shut2 w S0 hv st hv1 st1) (h' : Shut2 w S0 hv1 st1 hv2 st2) : Shut2 w S0 hv st hv2 st2 :=
  ⟨fun k v hk => h'.le k v (h.le k v hk), h'.rel, fun b hb => h.own b (h'.own b hb), fun j sl hj => h.gh j sl (h'.gh j sl hj)⟩
theorem Shut2.step {hv hv' : Hv} {st st' : Store} (h : Shut2 w S0 hv st hv' st') : StepOk w (All S0 hv st) w (All S0 hv' st') := (StepOk.refl _ _).sub fun b hb => hb.imp id (h.own b)
theorem void_own {hv : Hv} {st : Store} {k : Nat} (hk : st.get k = none) (b : Nat) : Own hv (st.put k .void) b ↔ Own hv st b := by
  constructor
  · rintro ⟨j, o, v, h1, h2, h3⟩
    rw [get_put] at h1
    split at h1
    · injection h1 with h1
      subst h1
      have h3 : blk .void v = some b := h3
      cases h3
    · exact ⟨j, o, v, h1, h2, h3⟩
  · rintro ⟨j, o, v, h1, h2, h3⟩
    refine ⟨j, o, v, ?_, h2, h3⟩
    rw [get_put, if_neg fun e => by rw [e, hk] at h1; cases h1]
    exact h1
theorem StRel.void {hv : Hv} {st : Store} (h : StRel w S0 hv st) {k : Nat} {v : Value} (hk : st.get k = none) (hv1 : hv k = some v) (hc : isCell v) : StRel w S0 hv (st.put k .void) := by
  have hall : All S0 hv (st.put k .void) = All S0 hv st := funext fun b => propext (or_congr Iff.rfl (void_own hk b))
  have hcase : ∀ j o, (st.put k .void).get j = some o → (j = k ∧ o = .void) ∨ st.get j = some o := fun j o hj => by
    rw [get_put] at hj
    split at hj
    · rename_i e
      injection hj with hj
      exact .inl ⟨e, hj.symm⟩
    · exact .inr hj
  have hno : ∀ F u b, ¬ Bk F .void u b := fun F u b hb => by
    have hb : blk .void u = some b := hb
    cases hb
  refine ⟨fun j o hj => ?_, fun j o u j' o' u' b y1 y2 y3 y4 y5 y6 => ?_, fun b hb => h.out b ((void_own hk b).1 hb), fun j d x u hj hu => ?_, fun j t i hj => ?_⟩
  · rw [hall]
    rcases hcase j o hj with ⟨rfl, rfl⟩ | hj
    · exact ⟨v, hv1, hc⟩
    · exact h.objs j o hj
  · rcases hcase j o y1 with ⟨rfl, rfl⟩ | y1
    · exact absurd y3 (hno _ _ _)
    · rcases hcase j' o' y4 with ⟨rfl, rfl⟩ | y4
      · exact absurd y6 (hno _ _ _)
      · exact h.inj _ _ _ _ _ _ _ y1 y2 y3 y4 y5 y6
  · rw [hall]
    rcases hcase j _ hj with ⟨rfl, e⟩ | hj
    · cases e
    · exact h.deep j d x u hj hu
  · rcases hcase j _ hj with ⟨rfl, e⟩ | hj
    · cases e
    · obtain ⟨_, _, _, _, _, _, _, _, _, _, _, _, _, _, q⟩ := h.ali j t i hj
      exact q.2.elim
theorem mv_rep {hv hv' : Hv} {S S' : Nat → Prop} (hs : StepOk w S w S') (hle : hv.le hv') {k n : Nat} (hn : ∀ u, hv k = some u → hv' n = some u) {a : Slot} {u : Value} (h : SlotRep w S hv a u) : SlotRep w S' hv' (a.mv k n) u := by
  unfold Slot.mv
  split
  · rename_i j
    split
    · rename_i e
      subst e
      exact ⟨hn _ h.1, h.2⟩
    · exact SlotRep.step hs hle h
  · rename_i j sz lo m
    split
    · rename_i e
      subst e
      obtain ⟨A, len, cap, A', cap', h1, h2⟩ := h
      exact ⟨A, len, cap, A', cap', hn _ h1, h2⟩
    · exact SlotRep.step hs hle h
  · exact SlotRep.step hs hle h
theorem all2_mv {hv hv' : Hv} {S S' : Nat → Prop} (hs : StepOk w S w S') (hle : hv.le hv') {k n : Nat} (hn : ∀ u, hv k = some u → hv' n = some u) : ∀ {l : List Slot} {us : List Value}, All2 (SlotRep w S hv) l us → All2 (SlotRep w S' hv') (l.map (Slot.mv k n)) us
  | [], [], _ => trivial
  | [], _ :: _, h => h.elim
  | _ :: _, [], h => h.elim
  | _ :: _, _ :: _, h => ⟨mv_rep hs hle hn h.1, all2_mv hs hle hn h.2⟩
theorem give1_rel (hs0 : ∀ b, S0 b → b < w.heap.size) (k : Nat) (p : Store × List Slot × Nat) {hv : Hv} {us : List Value} (h : StRel w S0 hv p.1) (hf : ∀ j, p.2.2 ≤ j → hv j = none) (hl : All2 (SlotRep w (All S0 hv p.1) hv) p.2.1 us) :
    ∃ hv', Shut2 w S0 hv p.1 hv' (give1 k p).1 ∧ (∀ j, (give1 k p).2.2 ≤ j → hv' j = none) ∧ All2 (SlotRep w (All S0 hv' (give1 k p).1) hv') (give1 k p).2.1 us := by
  unfold give1
  split
  · rename_i e xs hg
    obtain ⟨v, hv1, hob⟩ := h.objs _ _ hg
    have hne : k ≠ p.2.2 := fun e => by
      rw [e, hf p.2.2 (Nat.le_refl _)] at hv1
      cases hv1
    obtain ⟨r1, r2, r3, r4⟩ := h.lay (hf p.2.2 (Nat.le_refl _)) k v (.row e xs) rfl (fun q hq => by rw [hg] at hq; injection hq with hq; subst hq; rfl) hs0 (fun b hb => .inr ⟨_, _, hg, hv1, hb⟩) (w' := w) (fun _ _ _ => rfl) (fun hst => by
      rcases hob with q | ⟨b, off, cap, vs, ty, q1, q2, q3, q4, q5, q6⟩
      · exact .inl q
      · refine .inr ⟨b, off, cap, vs, ty, q1, q2, q3, q4, q5, fun j z hz => ?_⟩
        obtain ⟨es, p1, p2⟩ := q6 j z hz
        exact ⟨es, p1.step hst, p2⟩)
    have hcell : isCell v := by
      rcases hob with ⟨A, rfl, _⟩ | ⟨b, off, cap, vs, ty, rfl, _⟩ <;> trivial
    have hk1 : ((p.1.erase k).put p.2.2 (.row e xs)).get k = none := by rw [get_put, if_neg hne, get_erase, if_pos rfl]
    have hv2 : (hv.put p.2.2 v) k = some v := by rw [Hv.put_ne hne]; exact hv1
    have r5 := r1.void hk1 hv2 hcell
    have hown : ∀ b, Own (hv.put p.2.2 v) (((p.1.erase k).put p.2.2 (.row e xs)).put k .void) b → Own hv p.1 b := fun b hb => by
      obtain ⟨j, o, u, y1, y2, y3⟩ := (void_own hk1 b).1 hb
      rw [get_put] at y1
      split at y1
      · rename_i e1
        subst e1
        injection y1 with y1
        subst y1
        rw [Hv.put_same] at y2
        injection y2 with y2
        subst y2
        exact ⟨k, _, _, hg, hv1, y3⟩
      · rename_i e1
        rw [get_erase] at y1
        split at y1
        · cases y1
        · rw [Hv.put_ne e1] at y2
          exact ⟨j, o, u, y1, y2, (by
            have : (hv.put p.2.2 v).ft j = hv.ft j := by simp [Hv.put, e1]
            rwa [this] at y3)⟩
    have hs : StepOk w (All S0 hv p.1) w (All S0 (hv.put p.2.2 v) (((p.1.erase k).put p.2.2 (.row e xs)).put k .void)) := (StepOk.refl _ _).sub fun b hb => hb.imp id (hown b)
    refine ⟨hv.put p.2.2 v, ⟨r3, r5, hown, fun j sl hj => ?_⟩, fun j hj => ?_, all2_mv hs r3 (fun u hu => by rw [hv1] at hu; injection hu with hu; subst hu; exact Hv.put_same) hl⟩
    · rw [get_put] at hj
      split at hj
      · cases hj
      · rw [get_put] at hj
        split at hj
        · cases hj
        · rw [get_erase] at hj
          split at hj
          · cases hj
          · exact hj
    · simp only at hj
      rw [Hv.put_ne (by omega)]
      exact hf j (by omega)
  · exact ⟨hv, ⟨Hv.le_refl _, h, fun _ h => h, fun _ _ h => h⟩, hf, hl⟩
theorem giveBack_rel (hs0 : ∀ b, S0 b → b < w.heap.size) {us : List Value} : ∀ (ks : List AK) (g : List Slot) (p : Store × List Slot × Nat) (hv : Hv), StRel w S0 hv p.1 → (∀ j, p.2.2 ≤ j → hv j = none) → All2 (SlotRep w (All S0 hv p.1) hv) p.2.1 us →
    ∃ hv', Shut2 w S0 hv p.1 hv' (giveBack ks g p).1 ∧ All2 (SlotRep w (All S0 hv' (giveBack ks g p).1) hv') (giveBack ks g p).2.1 us
  | ks, g, p, hv, h, hf, hl => by
    unfold giveBack
    split
    · rename_i e r a l
      split
      · rename_i k
        obtain ⟨hv1, a1, a2, a3⟩ := give1_rel hs0 k p h hf hl
        obtain ⟨hv2, b1, b2⟩ := giveBack_rel hs0 r l (give1 k p) hv1 a1.rel a2 a3
        exact ⟨hv2, a1.trans b1, b2⟩
      · exact giveBack_rel hs0 r l p hv h hf hl
    · rename_i k r a l _
      exact giveBack_rel hs0 r l p hv h hf hl
    · exact ⟨hv, ⟨Hv.le_refl _, h, fun _ h => h, fun _ _ h => h⟩, hl⟩
end
theorem dropped_drop : ∀ (ks : List AK) (x : Data ks), dropped ks x = true → drop ks x = x
  | [], _, _ => rfl
  | k :: r, x, h => by
    by_cases hg : ∃ e, k = .give e
    · obtain ⟨e, rfl⟩ := hg
      obtain ⟨x1, x2⟩ := x
      simp only [dropped, Bool.and_eq_true] at h
      have h1 : x1 = none := by
        cases x1 with
        | none => rfl
        | some _ => cases h.1
      simp only [drop]
      rw [h1, dropped_drop r x2 h.2]
    · have e1 : drop (k :: r) x = (x.1, drop r x.2) := by cases k <;> first | rfl | exact absurd ⟨_, rfl⟩ hg
      have e2 : dropped (k :: r) x = dropped r x.2 := by cases k <;> first | rfl | exact absurd ⟨_, rfl⟩ hg
      rw [e2] at h
      rw [e1, dropped_drop r x.2 h]
theorem by_of_eval {tr : Bool} (ok : EnvOk tr P E) (hmix : P.follows .mixedOrders = true) {f : FuncId} {fn : Func} (hf : P.funcs[f]? = some fn) {c : Code} (hb : fn.body = some c) {sp : BySpec}
    (he : ∀ x y, sp.F x = some y → ∃ fuel, evalBy E fuel fn c sp.ks sp.outs x = some y) : By tr P f sp := by
  intro x r x' hF w n S0 hv vals hn hS0 hst hsl hbase
  obtain ⟨fuel, hev⟩ := he x (r, x') hF
  have hlen : vals.length = sp.ks.length := by rw [← slotsOf_length sp.ks 0 x]; exact hsl.length.symm
  have hobl := obsOf_length sp.ks x
  refine calls_of_wp hf hb ?_
  obtain ⟨hv1, hv10, hv1s, hv1F⟩ : ∃ hv1 : Hv, hv1 0 = some (.tuple vals.toArray) ∧ (∀ k, hv1 (k + 1) = if k < keysOf sp.ks then hv k else none) ∧ ∀ k, hv1.ft (k + 1) = hv.ft k :=
    ⟨⟨fun k => match k with | 0 => some (.tuple vals.toArray) | k + 1 => if k < keysOf sp.ks then hv k else none, fun k => match k with | 0 => [] | k + 1 => hv.ft k⟩, rfl, fun _ => rfl, fun _ => rfl⟩
  obtain ⟨sto1, hsto1⟩ : ∃ st : Store, st = (0, Ob.ghost (slotsOf 1 sp.ks x)) :: storeOf 1 (obsOf sp.ks x) := ⟨_, rfl⟩
  have g0 : sto1.get 0 = some (.ghost (slotsOf 1 sp.ks x)) := by rw [hsto1]; rfl
  have gs : ∀ k, sto1.get (k + 1) = (storeOf 0 (obsOf sp.ks x)).get k := fun k => by
    rw [hsto1]
    simp only [Store.get]
    rw [if_neg (by omega), get_storeOf, get_storeOf, if_pos (by omega), if_pos (by omega)]
    simp
  have hlt : ∀ k ob, (storeOf 0 (obsOf sp.ks x)).get k = some ob → k < keysOf sp.ks := fun k ob h => by
    rw [get_storeOf, if_pos (by omega)] at h
    have := (List.getElem?_eq_some_iff.1 h).1
    omega
  have hown : ∀ b, Own hv1 sto1 b ↔ Own hv (storeOf 0 (obsOf sp.ks x)) b := fun b => by
    constructor
    · rintro ⟨k, o, v, h1, h2, h3⟩
      cases k with
      | zero =>
        rw [g0] at h1
        injection h1 with h1
        subst h1
        simp [Bk, blk] at h3
      | succ k =>
        rw [gs] at h1
        rw [hv1s, if_pos (hlt k o h1)] at h2
        rw [hv1F] at h3
        exact ⟨k, o, v, h1, h2, h3⟩
    · rintro ⟨k, o, v, h1, h2, h3⟩
      exact ⟨k + 1, o, v, by rw [gs]; exact h1, by rw [hv1s, if_pos (hlt k o h1)]; exact h2, by rw [hv1F]; exact h3⟩
  have hall : All S0 hv1 sto1 = All S0 hv (storeOf 0 (obsOf sp.ks x)) := funext fun b => propext (or_congr Iff.rfl (hown b))
  have hsl1 : All2 (SlotRep w (All S0 hv (storeOf 0 (obsOf sp.ks x))) hv1) (slotsOf 1 sp.ks x) vals := slots_shift sp.ks 0 x vals (fun j _ h => by rw [hv1s, if_pos (by omega)]) hsl
  have hst1 : StRel w S0 hv1 sto1 := by
    refine ⟨fun k o hk => ?_, fun k o v k' o' v' b h1 h2 h3 h4 h5 h6 => ?_, fun b hb' => hst.out b ((hown b).1 hb'), fun k d z v hk hv' => ?_, fun k j i hk => ?_⟩
    · rw [hall]
      cases k with
      | zero =>
        rw [g0] at hk
        injection hk with hk
        subst hk
        exact ⟨_, hv10, vals, rfl, hsl1⟩
      | succ k =>
        rw [gs] at hk
        obtain ⟨v, h1, h2⟩ := hst.objs k o hk
        exact ⟨v, by rw [hv1s, if_pos (hlt k o hk)]; exact h1, h2.hv_free (get_mem hk)⟩
    · cases k with
      | zero => rw [g0] at h1; injection h1 with h1; subst h1; simp [Bk, blk] at h3
      | succ k =>
        cases k' with
        | zero => rw [g0] at h4; injection h4 with h4; subst h4; simp [Bk, blk] at h6
        | succ k' =>
          rw [gs] at h1 h4
          rw [hv1s, if_pos (hlt k _ h1)] at h2
          rw [hv1s, if_pos (hlt k' _ h4)] at h5
          rw [hv1F] at h3 h6
          rw [hst.inj _ _ _ _ _ _ _ h1 h2 h3 h4 h5 h6]
    · cases k with
      | zero => rw [g0] at hk; injection hk with hk; cases hk
      | succ k =>
        rw [gs] at hk
        rw [hv1s, if_pos (hlt k _ hk)] at hv'
        rw [hall, hv1F]
        exact hst.deep k d z v hk hv'
    · cases k with
      | zero => rw [g0] at hk; injection hk with hk; cases hk
      | succ k =>
        rw [gs] at hk
        exact absurd rfl ((obsOf_kind sp.ks x _ (get_mem hk)).not_alias j i)
  obtain ⟨hvO, o1, o2, o3, o4, o5, o6, o7⟩ := openArgs_rel sp.ks 1 (sto1, 1 + keysOf sp.ks) hv1 hst1 (fun j hj => by
    have : j = (j - 1) + 1 := by simp only at hj; omega
    rw [this, hv1s, if_neg (by simp only at hj; omega)])
  have hsO : StepOk w (All S0 hv (storeOf 0 (obsOf sp.ks x))) w (All S0 hvO (openArgs sp.ks 1 (sto1, 1 + keysOf sp.ks)).1) := by
    rw [← hall]
    exact (StepOk.refl _ _).sub fun b hb => hb.imp id (o6 b)
  have hrel : Rel ⟨w, n, hn, .tuple vals.toArray, tr, All S0 hv (storeOf 0 (obsOf sp.ks x))⟩ S0 hvO (startBy sp.ks x fn.ntmps) { tmps := vals.toArray ++ Array.replicate (fn.ntmps - vals.toArray.size) undef, defers := [] } w := by
    have hstO : (startBy sp.ks x fn.ntmps).st = (openArgs sp.ks 1 (sto1, 1 + keysOf sp.ks)).1 := by rw [hsto1]; rfl
    refine ⟨hstO ▸ o1, ?_, ?_, hS0, Below.refl _ _ _, rfl, ?_, ?_, fun _ _ => rfl⟩
    · rw [hstO]
      simp only [startBy, Array.toList_append, Array.toList_replicate, List.size_toArray, hlen]
      exact (hsl1.mono fun _ _ r => SlotRep.step hsO o2 r).append (All2.replicate (show SlotRep w _ _ (.one .dead) undef from trivial) _)
    · rw [hstO]
      exact fun b hb' => hbase b ((hown b).1 (o6 b hb'))
    · rw [hstO]
      intro k sl hk
      have hk := o7 k sl hk
      cases k with
      | zero => exact (o3 0 (by simp only; omega)).trans hv10
      | succ k =>
        rw [gs] at hk
        exact absurd rfl ((obsOf_kind sp.ks x _ (get_mem hk)).not_ghost sl)
    · rw [hstO]
      exact hsO
  refine evalC_sound ok hmix fuel c _ (r, x') _ ?_ _ _ w hvO hrel (fun j hj => o4 j (by rw [hsto1]; exact hj)) hev
  · intro e s a w' hv2 h hf' hk
    have hcore : endBy E sp.ks sp.outs fn .ret s = some (r, x') → bodyPost P fn (fun e w' => ∃ (v : Value) (vs : List Value) (hv' : Hv), e = .returned v ∧ v = retOf vs ∧ (∀ k, k < keysOf sp.ks → hv' k = hv k) ∧ StRel w' S0 hv' (endStore sp r x') ∧
      All2 (AVRep w' (All S0 hv' (endStore sp r x')) hv') (resAVs sp.outs r (keysOf sp.ks)) vs ∧ (∀ b, Own hv' (endStore sp r x') b → n ≤ b) ∧ Below tr n w w' ∧
      StepOk w (All S0 hv (storeOf 0 (obsOf sp.ks x))) w' (All S0 hv' (endStore sp r x')) ∧ (∀ b, S0 b → w'.heap[b]? = w.heap[b]?) ∧ drop sp.ks x' = x') .ret a w' := by
      intro hk
      simp only [endBy] at hk
      split at hk
      · rename_i l hl
        split at hk
        · rename_i g hg
          split at hk
          · rename_i stA hstA
            split at hk
            · rename_i stB hstB
              obtain ⟨hvA, cA⟩ := foldArgs_rel sp.ks g s.st hv2 stA h.st hstA
              obtain ⟨hvB, cB⟩ := foldOuts_rel sp.outs l stA hvA stB cA.rel hstB
              have hs0' : ∀ b, S0 b → b < w'.heap.size := fun b hb => Nat.lt_of_lt_of_le (h.s0 b hb) h.keep.size
              have c0 := (cA.trans cB).two
              obtain ⟨us, m1, m2⟩ := resSlots_run (P := P) ok h _ _ hl
              replace m2 := m2.mono fun _ _ r => SlotRep.step c0.step c0.le r
              obtain ⟨hvG, cG, mG⟩ := giveBack_rel hs0' sp.ks g (stB, l, s.next) hvB c0.rel (fun j hj => by
                rw [show hvB j = hv2 j by rw [(cA.trans cB).val]]
                exact hf' j hj) m2
              have cc := c0.trans cG
              revert hk cc cG mG
              generalize (giveBack sp.ks g (stB, l, s.next)).1 = stC
              generalize (giveBack sp.ks g (stB, l, s.next)).2.1 = lC
              intro hk cG mG cc
              unfold endBy2 at hk
              split at hk
              rotate_left
              · cases hk
              rename_i r0 hr0
              split at hk
              rotate_left
              · cases hk
              rename_i x0 kk hread
              split at hk
              · rename_i hc
                injection hk with hk
                injection hk with hk1 hk2
                subst hk1 hk2
                simp only [Bool.and_eq_true] at hc
                obtain ⟨⟨c1, c2⟩, c3⟩ := hc
                have hnd := nodupB_sound c1
                obtain ⟨fv, q1, q2, q3⟩ := outs_rep cc.rel sp.outs lC us r0 mG hr0
                obtain ⟨gv, hgv, gus, rfl, hgu⟩ := h.st.objs 0 _ hg
                have hgv2 : hv2 0 = some (.tuple vals.toArray) := h.gh 0 g hg
                rw [hgv2] at hgv
                injection hgv with hgv
                injection hgv with hgv
                have hgv : vals = gus := by simpa using hgv
                subst hgv
                replace hgu := hgu.mono fun _ _ r => SlotRep.step cc.step cc.le r
                obtain ⟨k1, k2⟩ := by_read sp.ks 0 x x0 kk g vals hsl (fun i ob hi => by
                  have hgi : (storeOf 0 (obsOf sp.ks x)).get i = some ob := by rw [get_storeOf, if_pos (by omega)]; simpa using hi
                  obtain ⟨v, z1, z2⟩ := hst.objs i ob hgi
                  refine ⟨v, by simpa using z1, z2, fun d' x' e => ?_⟩
                  subst e
                  rw [Nat.zero_add]
                  exact (hst.deep i d' x' v hgi z1).1) hread hgu cc.rel
                obtain ⟨hvF, hvFl, hvFr, hvFlF, hvFrF⟩ : ∃ hvF : Hv, (∀ j, j < keysOf sp.ks → hvF j = hv j) ∧ (∀ j, hvF (keysOf sp.ks + j) = (fv[j]?).map (·.1)) ∧ (∀ j, j < keysOf sp.ks → hvF.ft j = ftOf hvG kk[j]?) ∧ ∀ j, hvF.ft (keysOf sp.ks + j) = (match fv[j]? with | some p => ftOf hvG p.2 | none => []) :=
                  ⟨⟨fun j => if j < keysOf sp.ks then hv j else (fv[j - keysOf sp.ks]?).map (·.1), fun j => if j < keysOf sp.ks then ftOf hvG kk[j]? else (match fv[j - keysOf sp.ks]? with | some p => ftOf hvG p.2 | none => [])⟩,
                    fun j hj => if_pos hj, fun j => by simp only [Nat.add_sub_cancel_left]; rw [if_neg (by omega)], fun j hj => if_pos hj, fun j => by simp only [Nat.add_sub_cancel_left]; rw [if_neg (by omega)]⟩
                have hvFrP : ∀ (j : Nat) (p : Value × Option Nat), fv[j]? = some p → hvF.ft (keysOf sp.ks + j) = ftOf hvG p.2 := fun j p hp => by rw [hvFrF, hp]
                have hvFlP : ∀ (j k : Nat), j < keysOf sp.ks → kk[j]? = some k → hvF.ft j = hvG.ft k := fun j k hj hp => by rw [hvFlF j hj, hp]; rfl
                have hend : ∀ (j : Nat) (ob : Ob), (endStore sp r0 x0).get j = some ob → (j < keysOf sp.ks ∧ ∃ key u, kk[j]? = some key ∧ stC.get key = some ob ∧ hvG key = some u ∧ hvF j = some u) ∨
                    ∃ i p, j = keysOf sp.ks + i ∧ fv[i]? = some p ∧ (rowsOf sp.outs r0)[i]? = some ob ∧ hvF j = some p.1 ∧ isCell p.1 ∧ ObRep w' (All S0 hvG stC) hvG p.1 ob ∧ (∀ b, Bk (ftOf hvG p.2) ob p.1 b → ∃ k ob' u, p.2 = some k ∧ stC.get k = some ob' ∧ hvG k = some u ∧ Bk (hvG.ft k) ob' u b) ∧ (ob.flat = true ∨ ∃ k, p.2 = some k ∧ stC.get k = some ob ∧ hvG k = some p.1) := by
                  intro j ob hj
                  unfold endStore at hj
                  rw [get_resStore] at hj
                  split at hj
                  · rename_i hjj
                    rw [get_rowsOf] at hj
                    obtain ⟨p, p1, p2⟩ := q1.get _ ob hj
                    refine .inr ⟨j - keysOf sp.ks, p, by omega, p1, hj, ?_, p2.1, p2.2.1, p2.2.2.1, p2.2.2.2⟩
                    have := hvFr (j - keysOf sp.ks)
                    rw [show keysOf sp.ks + (j - keysOf sp.ks) = j by omega, p1] at this
                    exact this
                  · rw [get_storeOf, if_pos (by omega), Nat.sub_zero] at hj
                    have hjl := (List.getElem?_eq_some_iff.1 hj).1
                    rw [obsOf_length] at hjl
                    obtain ⟨ob', u, z1, z2, z3, z4⟩ := k2 j kk[j] (List.getElem?_eq_getElem (by omega))
                    rw [hj] at z1
                    injection z1 with z1
                    subst z1
                    exact .inl ⟨hjl, _, u, List.getElem?_eq_getElem (by omega), z2, z3, by rw [hvFl j hjl]; simpa using z4⟩
                have hkey : ∀ (j : Nat) (ob : Ob) (u : Value) (b : Nat), (endStore sp r0 x0).get j = some ob → hvF j = some u → Bk (hvF.ft j) ob u b → ∃ key ob' u', stC.get key = some ob' ∧ hvG key = some u' ∧ Bk (hvG.ft key) ob' u' b ∧
                    ((j < keysOf sp.ks ∧ kk[j]? = some key) ∨ ∃ i p, j = keysOf sp.ks + i ∧ fv[i]? = some p ∧ p.2 = some key) := by
                  intro j ob u b hj hu hbk
                  rcases hend j ob hj with ⟨hlt', key, u', z1, z2, z3, z4⟩ | ⟨i, p, rfl, z1, z2, z3, z4, z5, z6, z7⟩
                  · rw [z4] at hu
                    injection hu with hu
                    subst hu
                    rw [hvFlP j key hlt' z1] at hbk
                    exact ⟨key, ob, u', z2, z3, hbk, .inl ⟨hlt', z1⟩⟩
                  · rw [z3] at hu
                    injection hu with hu
                    subst hu
                    rw [hvFrP i p z1] at hbk
                    obtain ⟨key, ob', u', y1, y2, y3, y4⟩ := z6 b hbk
                    exact ⟨key, ob', u', y2, y3, y4, .inr ⟨i, p, rfl, z1, y1⟩⟩
                have hsub : ∀ b, All S0 hvF (endStore sp r0 x0) b → All S0 hvG stC b := fun b hb' => hb'.imp id fun ⟨j, ob, u, y1, y2, y3⟩ => by
                  obtain ⟨key, ob', u', z1, z2, z3, _⟩ := hkey j ob u b y1 y2 y3
                  exact ⟨key, ob', u', z1, z2, z3⟩
                have hs : StepOk w' (All S0 hvG stC) w' (All S0 hvF (endStore sp r0 x0)) := (StepOk.refl _ _).sub hsub
                have hmem : ∀ (j key : Nat), ((j < keysOf sp.ks ∧ kk[j]? = some key) ∨ ∃ i p, j = keysOf sp.ks + i ∧ fv[i]? = some p ∧ p.2 = some key) → key ∈ kk ++ freshKeys sp.outs lC := by
                  intro j key hj
                  rcases hj with ⟨_, hj⟩ | ⟨i, p, _, hj, hp⟩
                  · exact List.mem_append_left _ (List.mem_of_getElem? hj)
                  · refine List.mem_append_right _ ?_
                    rw [← q2]
                    exact List.mem_filterMap.2 ⟨p, List.mem_of_getElem? hj, hp⟩
                have hfree : Free hvG stC (pureRows sp.outs lC) (All S0 hvF (endStore sp r0 x0)) := by
                  intro k hk e xs v b y1 y2 y3 hb'
                  rcases hb' with hb' | ⟨j, ob, u, z1, z2, z3⟩
                  · exact cc.rel.out b ⟨k, _, _, y1, y2, y3⟩ hb'
                  · obtain ⟨key, ob', u', x1, x2, x3, x4⟩ := hkey j ob u b z1 z2 z3
                    have hkk := cc.rel.inj _ _ _ _ _ _ _ y1 y2 y3 x1 x2 x3
                    subst hkk
                    simp only [disjoint, List.all_eq_true, Bool.not_eq_true', List.contains_eq_mem, decide_eq_false_iff_not] at c2
                    exact c2 k (hmem j k x4) hk
                have hnd1 := (List.nodup_append.1 hnd).1
                have hnd2 := (List.nodup_append.1 hnd).2.1
                have hnd3 := (List.nodup_append.1 hnd).2.2
                have hinj : ∀ (j j' key : Nat), ((j < keysOf sp.ks ∧ kk[j]? = some key) ∨ ∃ i p, j = keysOf sp.ks + i ∧ fv[i]? = some p ∧ p.2 = some key) → ((j' < keysOf sp.ks ∧ kk[j']? = some key) ∨ ∃ i p, j' = keysOf sp.ks + i ∧ fv[i]? = some p ∧ p.2 = some key) → j = j' := by
                  intro j j' key h1 h2
                  rcases h1 with ⟨_, h1⟩ | ⟨i, p, rfl, h1, hp⟩
                  · rcases h2 with ⟨_, h2⟩ | ⟨i, p, rfl, h2, hp⟩
                    · exact (List.getElem?_inj (List.getElem?_eq_some_iff.1 h1).1 hnd1).1 (h1.trans h2.symm)
                    · exact absurd rfl (hnd3 key (List.mem_of_getElem? h1) key (by rw [← q2]; exact List.mem_filterMap.2 ⟨p, List.mem_of_getElem? h2, hp⟩))
                  · rcases h2 with ⟨_, h2⟩ | ⟨i', p', rfl, h2, hp'⟩
                    · exact absurd rfl (hnd3 key (List.mem_of_getElem? h2) key (by rw [← q2]; exact List.mem_filterMap.2 ⟨p, List.mem_of_getElem? h1, hp⟩))
                    · rw [filterMap_inj (by rw [q2]; exact hnd2) h1 h2 hp hp']
                refine ⟨h.dfr, retOf us, ?_, retOf us, us, hvF, rfl, rfl, fun k hk => hvFl k hk, ⟨fun j ob hj => ?_, fun j ob v j' ob' v' b y1 y2 y3 y4 y5 y6 => ?_, fun b ⟨j, ob, u, y1, y2, y3⟩ hb0 => ?_, fun j d' x' v hj hv' => ?_, fun j t i hj => ?_⟩, ?_, fun b ⟨j, ob, u, y1, y2, y3⟩ => ?_, h.keep, h.stp.trans (cc.step.trans hs), h.kp, dropped_drop _ _ c3⟩
                · have hres : results fn a.tmps = (do let vs ← fn.results.mapM (resM a); pure (if h : vs.size = 1 then vs[0] else .tuple vs)) := rfl
                  rw [hres, Sem.run_bind, Array.mapM_eq_mapM_toList, Sem.run_map, m1]
                  simp only [Result.andThen_ok, Sem.run_pure]
                  congr 1
                  match us with
                  | [] => rfl
                  | [v] => rfl
                  | v :: u :: m => rfl
                · rcases hend j ob hj with ⟨hlt', key, u', z1, z2, z3, z4⟩ | ⟨i, p, rfl, z1, z2, z3, z4, z5, z6, z7⟩
                  · obtain ⟨v, y1, y2⟩ := cc.rel.objs key ob z2
                    rw [z3] at y1
                    injection y1 with y1
                    subst y1
                    refine ⟨u', z4, ?_⟩
                    have hob : ob ∈ obsOf sp.ks x0 := by
                      obtain ⟨ob', u2, w1, w2, _, _⟩ := k2 j key z1
                      rw [z2] at w2
                      injection w2 with w2
                      subst w2
                      exact List.mem_of_getElem? w1
                    exact (y2.hv_free (hv' := hvF) hob).step hs (Hv.le_refl _) fun _ _ => rfl
                  · refine ⟨p.1, z3, ?_⟩
                    rcases rowsOf_kind sp.outs r0 ob (List.mem_of_getElem? z2) with ⟨t, xs, rfl⟩ | ⟨t, y, rfl⟩
                    rotate_left
                    · exact z5
                    rcases z5 with q | ⟨b, off, cap, cells, ty, e1, w1, w2, w3, w4, w5⟩
                    · exact .inl q
                    · refine .inr ⟨b, off, cap, cells, ty, e1, w1, w2, w3, w4, fun i x hx => ?_⟩
                      obtain ⟨es, v1, v2⟩ := w5 i x hx
                      exact ⟨es, v1.step hs, v2⟩
                · obtain ⟨key, ob1, u1, z1, z2, z3, z4⟩ := hkey j ob v b y1 y2 y3
                  obtain ⟨key', ob2, u2, z1', z2', z3', z4'⟩ := hkey j' ob' v' b y4 y5 y6
                  have hkk := cc.rel.inj _ _ _ _ _ _ _ z1 z2 z3 z1' z2' z3'
                  subst hkk
                  exact hinj j j' key z4 z4'
                · obtain ⟨key, ob1, u1, z1, z2, z3, z4⟩ := hkey j ob u b y1 y2 y3
                  exact cc.rel.out b ⟨key, ob1, u1, z1, z2, z3⟩ hb0
                · rcases hend j _ hj with ⟨hlt', key, u', z1, z2, z3, z4⟩ | ⟨i, p, rfl, z1, z2, z3, z4, z5, z6, z7⟩
                  · rw [z4] at hv'
                    injection hv' with hv'
                    subst hv'
                    rw [hvFlP j key hlt' z1]
                    obtain ⟨y1, y2⟩ := cc.rel.deep key d' x' u' z2 z3
                    exact ⟨y1.step hs fun _ _ => rfl, y2⟩
                  · rw [z3] at hv'
                    injection hv' with hv'
                    subst hv'
                    rw [hvFrP i p z1]
                    rcases z7 with z7 | ⟨k', y1, y2, y3⟩
                    · cases z7
                    · rw [y1]
                      obtain ⟨y4, y5⟩ := cc.rel.deep k' d' x' _ y2 y3
                      exact ⟨y4.step hs fun _ _ => rfl, y5⟩
                · rcases hend j _ hj with ⟨hlt', key, u', z1, z2, z3, z4⟩ | ⟨i', p, rfl, z1, z2, z3, z4, z5, z6, z7⟩
                  · obtain ⟨ob', u2, w1, w2, _, _⟩ := k2 j key z1
                    rw [z2] at w2
                    injection w2 with w2
                    subst w2
                    exact absurd rfl ((obsOf_kind sp.ks x0 _ (List.mem_of_getElem? w1)).not_alias t i)
                  · rcases rowsOf_kind sp.outs r0 _ (List.mem_of_getElem? z2) with ⟨_, _, e⟩ | ⟨_, _, e⟩ <;> cases e
                · exact q3 _ hvF (keysOf sp.ks) hsub hfree fun j p hj => by rw [hvFr, hj]; rfl
                · obtain ⟨key, ob1, u1, z1, z2, z3, z4⟩ := hkey j ob u b y1 y2 y3
                  exact h.base b (cc.own b ⟨key, ob1, u1, z1, z2, z3⟩)
              · cases hk
            · cases hk
          · cases hk
        · cases hk
      · cases hk
    cases e with
    | exit id => cases hk
    | normal => exact hcore hk
    | ret => exact hcore hk
end Go.Ev
end
section
set_option linter.unusedVariables false
set_option linter.unusedSimpArgs false
namespace Go.Ev
open Go.RowKit
section
variable {w w' : World} {S S' S0 : Nat → Prop} {hv hvC : Hv} {st : Store}
theorem range_canon {hv hvC : Hv} : ∀ (ks : List Nat) (d : Nat) (l : List Value), (∀ (i key : Nat), ks[i]? = some key → hvC (d + i) = hv key) → All2 (fun k v => hv k = some v) ks l → All2 (fun k v => hvC k = some v) (List.range' d ks.length) l
  | [], d, [], _, _ => trivial
  | [], d, _ :: _, _, h => h.elim
  | _ :: _, d, [], _, h => h.elim
  | k :: ks, d, v :: l, hh, h => ⟨(hh 0 k rfl).trans h.1, range_canon ks (d + 1) l (fun i key hi => by
      have := hh (i + 1) key (by simpa using hi)
      rwa [show d + (i + 1) = d + 1 + i by omega] at this) h.2⟩
theorem slot_canon (hst : StRel w S0 hv st) (k : AK) (d : Nat) {y : k.den} {kk : List Nat} {g : Slot} {v : Value} (hr : k.read st g = some (y, kk)) (h2 : SlotRep w (All S0 hv st) hv g v) (hC : ∀ (i key : Nat), kk[i]? = some key → hvC (d + i) = hv key) :
    SlotRep w (All S0 hv st) hvC (k.slot d y) v ∧ kk.length = k.keys ∧ ∀ (i key : Nat), kk[i]? = some key → ∃ ob, (k.obs y)[i]? = some ob ∧ st.get key = some ob := by
  cases k with
  | pure t =>
    simp only [AK.read] at hr
    unfold rdPure at hr
    split at hr
    · rename_i z hz
      cases hb : g.rows.all (stillRow st) with
      | false => rw [hb] at hr; cases hr
      | true =>
        rw [hb] at hr
        injection hr with hr
        injection hr with hr1 hr2
        subst hr1 hr2
        refine ⟨slot_rep hst h2 hz (fun _ h => h) fun k hk e xs u b q => ?_, rfl, fun i key h => by simp at h⟩
        have := List.all_eq_true.1 hb k hk
        unfold stillRow at this
        rw [q] at this
        cases this
    · cases hr
  | con t =>
    simp only [AK.read] at hr
    unfold rdCon at hr
    split at hr
    · split at hr
      · rename_i e
        subst e
        injection hr with hr
        injection hr with hr1 hr2
        subst hr1 hr2
        exact ⟨h2, rfl, fun i key h => by simp at h⟩
      · cases hr
    · cases hr
  | row e =>
    simp only [AK.read] at hr
    unfold rdRow at hr
    split at hr
    · rename_i k'
      split at hr
      · rename_i xs hxs
        injection hr with hr
        injection hr with hr1 hr2
        subst hr1 hr2
        refine ⟨⟨(hC 0 k' rfl).trans h2.1, h2.2⟩, rfl, fun i key h => ?_⟩
        have hi : i = 0 ∧ k' = key := by
          cases i with
          | zero => simpa using h
          | succ i => simp at h
        obtain ⟨rfl, rfl⟩ := hi
        exact ⟨_, rfl, wrow_get hxs⟩
      · cases hr
    · cases hr
  | cell t =>
    simp only [AK.read] at hr
    unfold rdCell at hr
    split at hr
    · rename_i k'
      split at hr
      · rename_i z hz
        injection hr with hr
        injection hr with hr1 hr2
        subst hr1 hr2
        refine ⟨?_, rfl, fun i key h => ?_⟩
        · have he := hC 0 k' rfl
          rcases h2 with ⟨b, h1, h2⟩ | ⟨b, o, len, cap, h1, h2⟩
          · exact .inl ⟨b, he.trans h1, h2⟩
          · exact .inr ⟨b, o, len, cap, he.trans h1, h2⟩
        · have hi : i = 0 ∧ k' = key := by
            cases i with
            | zero => simpa using h
            | succ i => simp at h
          obtain ⟨rfl, rfl⟩ := hi
          exact ⟨_, rfl, cell_read hz⟩
      · cases hr
    · cases hr
  | fn f cs =>
    simp only [AK.read] at hr
    unfold rdFn at hr
    split at hr
    · rename_i f' ks
      cases hb : Nat.beq f' f with
      | false => rw [hb] at hr; cases hr
      | true =>
        rw [hb] at hr
        have hff := Nat.eq_of_beq_eq_true hb
        subst hff
        simp only [cond_true] at hr
        split at hr
        · rename_i z hz
          injection hr with hr
          injection hr with hr1 hr2
          subst hr1 hr2
          obtain ⟨c1, c2⟩ := caps_read cs ks z hz
          obtain ⟨l2, b1, b2⟩ := h2
          refine ⟨⟨l2, ?_, b2⟩, c1, c2⟩
          rw [← c1]
          exact range_canon ks d l2 hC b1
        · cases hr
    · cases hr
  | map kt vt =>
    simp only [AK.read] at hr
    unfold rdMap at hr
    split at hr
    · rename_i k'
      split at hr
      · rename_i p hp
        injection hr with hr
        injection hr with hr1 hr2
        subst hr1 hr2
        refine ⟨⟨(hC 0 k' rfl).trans h2.1, h2.2⟩, rfl, fun i key h => ?_⟩
        have hi : i = 0 ∧ k' = key := by
          cases i with
          | zero => simpa using h
          | succ i => simp at h
        obtain ⟨rfl, rfl⟩ := hi
        obtain ⟨k2, v2, l, hg, e, he⟩ := map_read hp
        injection e with e1 e2
        subst e1 e2
        have he : l = p.1 := he
        subst he
        exact ⟨_, rfl, hg⟩
      · cases hr
    · cases hr
  | give e =>
    simp only [AK.read] at hr
    unfold rdGive at hr
    split at hr
    · rename_i k'
      split at hr
      · rename_i xs hxs
        injection hr with hr
        injection hr with hr1 hr2
        subst hr1 hr2
        refine ⟨⟨(hC 0 k' rfl).trans h2.1, h2.2⟩, rfl, fun i key h => ?_⟩
        have hi : i = 0 ∧ k' = key := by
          cases i with
          | zero => simpa using h
          | succ i => simp at h
        obtain ⟨rfl, rfl⟩ := hi
        exact ⟨_, rfl, wrow_get hxs⟩
      · split at hr
        · rename_i hvoid
          injection hr with hr
          injection hr with hr1 hr2
          subst hr1 hr2
          refine ⟨⟨(hC 0 k' rfl).trans h2.1, h2.2⟩, rfl, fun i key h => ?_⟩
          have hi : i = 0 ∧ k' = key := by
            cases i with
            | zero => simpa using h
            | succ i => simp at h
          obtain ⟨rfl, rfl⟩ := hi
          exact ⟨_, rfl, hvoid⟩
        · cases hr
    · cases hr
  | deep t =>
    simp only [AK.read] at hr
    unfold rdDeep at hr
    split at hr
    · rename_i z hz
      injection hr with hr
      injection hr with hr1 hr2
      subst hr1
      obtain ⟨k', q1, q2, q3, q4⟩ := deepAs_rep hst h2 hz
      rw [q1] at hr2
      subst hr2
      refine ⟨ptr_name hst q2 q3 q4 ((hC 0 k' rfl).trans q3), rfl, fun i key h => ?_⟩
      have hi : i = 0 ∧ k' = key := by
        cases i with
        | zero => simpa using h
        | succ i => simp at h
      obtain ⟨rfl, rfl⟩ := hi
      exact ⟨_, rfl, q2⟩
    · cases hr
theorem slots_canon (hst : StRel w S0 hv st) : ∀ (ks : List AK) (d : Nat) {y : Data ks} {kk : List Nat} {gs : List Slot} {vals : List Value}, readBy st ks gs = some (y, kk) → All2 (SlotRep w (All S0 hv st) hv) gs vals → (∀ (i key : Nat), kk[i]? = some key → hvC (d + i) = hv key) →
    All2 (SlotRep w (All S0 hv st) hvC) (slotsOf d ks y) vals ∧ kk.length = keysOf ks ∧ ∀ (i key : Nat), kk[i]? = some key → ∃ ob, (obsOf ks y)[i]? = some ob ∧ st.get key = some ob
  | [], d, y, kk, [], [], hr, _, _ => by
    simp only [readBy, Option.some.injEq, Prod.mk.injEq] at hr
    obtain ⟨_, rfl⟩ := hr
    exact ⟨trivial, rfl, fun i key h => by simp at h⟩
  | [], d, y, kk, _ :: _, _, hr, _, _ => by simp [readBy] at hr
  | [], d, y, kk, [], _ :: _, _, h, _ => h.elim
  | _ :: _, d, y, kk, [], _, hr, _, _ => by simp [readBy] at hr
  | _ :: _, d, y, kk, _ :: _, [], _, h, _ => h.elim
  | k :: r, d, y, kk, g :: gs, v :: vs, hr, h2, hC => by
    simp only [readBy] at hr
    split at hr
    · rename_i y1 l hy1
      split at hr
      · rename_i y2 m hy2
        simp only [Option.some.injEq, Prod.mk.injEq] at hr
        obtain ⟨rfl, rfl⟩ := hr
        obtain ⟨p1, p2, p3⟩ := slot_canon hst k d hy1 h2.1 fun i key hi => hC i key (by rw [List.getElem?_append_left (List.getElem?_eq_some_iff.1 hi).1]; exact hi)
        obtain ⟨q1, q2, q3⟩ := slots_canon hst r (d + k.keys) hy2 h2.2 fun i key hi => by
          have := hC (l.length + i) key (by rw [List.getElem?_append_right (by omega), Nat.add_sub_cancel_left]; exact hi)
          rwa [p2, ← Nat.add_assoc] at this
        have ho' := obs_length k y1
        refine ⟨⟨p1, q1⟩, by simp [keysOf, p2, q2], fun i key hi => ?_⟩
        show ∃ ob, (k.obs y1 ++ obsOf r y2)[i]? = some ob ∧ _
        by_cases hlt : i < l.length
        · rw [List.getElem?_append_left hlt] at hi
          rw [List.getElem?_append_left (by omega)]
          exact p3 i key hi
        · rw [List.getElem?_append_right (by omega)] at hi
          rw [List.getElem?_append_right (by omega), ho', ← p2]
          exact q3 _ key hi
      · cases hr
    · cases hr
theorem get_putAll : ∀ (kk : List Nat) (os : List Ob) (st : Store) (j : Nat), kk.Nodup → os.length = kk.length → (∀ (i : Nat), kk[i]? = some j → (putAll kk os st).get j = os[i]?) ∧ (j ∉ kk → (putAll kk os st).get j = st.get j)
  | [], [], st, j, _, _ => ⟨fun i h => by simp at h, fun _ => rfl⟩
  | [], _ :: _, st, j, _, h => by simp at h
  | _ :: _, [], st, j, _, h => by simp at h
  | k :: kk, o :: os, st, j, hn, hl => by
    obtain ⟨h1, h2⟩ := get_putAll kk os (st.put k o) j (List.nodup_cons.1 hn).2 (by simpa using hl)
    refine ⟨fun i hi => ?_, fun hj => ?_⟩
    · simp only [putAll]
      cases i with
      | zero =>
        simp at hi
        subst hi
        rw [h2 (List.nodup_cons.1 hn).1, get_put, if_pos rfl]
        rfl
      | succ i => exact h1 i (by simpa using hi)
    · simp only [putAll]
      rw [h2 (fun h => hj (List.mem_cons_of_mem _ h)), get_put, if_neg (fun (h : j = k) => hj (by rw [h]; exact List.mem_cons_self))]
theorem shift_res {T T' : Nat → Prop} (hs : StepOk w' T w' T') {hv' hv2 : Hv} : ∀ (os : List OT) (x : OTup os) (d key : Nat) (us : List Value), (∀ i, i < freshes os → hv2 (key + i) = hv' (d + i)) → All2 (AVRep w' T hv') (resAVs os x d) us → All2 (AVRep w' T' hv2) (resAVs os x key) us
  | [], x, d, key, [], _, _ => trivial
  | [], x, d, key, _ :: _, _, h => h.elim
  | .pure t :: os, x, d, key, [], _, h => h.elim
  | .fresh t :: os, x, d, key, [], _, h => h.elim
  | .deep t :: os, x, d, key, [], _, h => h.elim
  | .pure t :: os, x, d, key, u :: us, hh, h => by
    obtain ⟨⟨cs, p1, p2⟩, p3⟩ := h
    exact ⟨⟨cs, p1.step hs, p2⟩, shift_res hs os x.2 d key us hh p3⟩
  | .fresh t :: os, x, d, key, u :: us, hh, h => by
    obtain ⟨p1, p3⟩ := h
    refine ⟨⟨(hh 0 (by simp [freshes])).trans p1.1, p1.2⟩, shift_res hs os x.2 (d + 1) (key + 1) us (fun i hi => ?_) p3⟩
    have := hh (i + 1) (by simp only [freshes]; omega)
    rwa [show key + 1 + i = key + (i + 1) by omega, show d + 1 + i = d + (i + 1) by omega]
  | .deep t :: os, x, d, key, u :: us, hh, h => by
    obtain ⟨p1, p3⟩ := h
    refine ⟨ptr_rep (fun z hz => (hh 0 (by simp [freshes])).trans hz) p1, shift_res hs os x.2 (d + 1) (key + 1) us (fun i hi => ?_) p3⟩
    have := hh (i + 1) (by simp only [freshes]; omega)
    rwa [show key + 1 + i = key + (i + 1) by omega, show d + 1 + i = d + (i + 1) by omega]
end
theorem ext_core {P : Program} {f : FuncId} {sp : BySpec} {w0 : Base} (h : By w0.tr P f sp) {w : World} {S0 : Nat → Prop} {hv : Hv} {st : Store} {key : Nat} {as : List Slot} {vals : List Value} {x : Data sp.ks} {kk : List Nat} (hread : readBy st sp.ks as = some (x, kk)) (hnd : kk.Nodup) (c3 : freshes sp.outs ≤ 4)
    {r : OTup sp.outs} {x' : Data sp.ks} (hF : sp.F x = some (r, x')) (hst : StRel w S0 hv st) (hsl : All2 (SlotRep w (All S0 hv st) hv) as vals) (hbase : ∀ b, Own hv st b → w0.n ≤ b) (hs0 : ∀ b, S0 b → b < w0.w.heap.size) (hkeep : Below w0.tr w0.n w0.w w) (hgh : ∀ k sl, st.get k = some (.ghost sl) → hv k = some w0.g) (hk : ∀ j, j < 12 → hv (key + j) = none) :
    Calls P f vals.toArray w fun e w' => ∃ v hv', e = .returned v ∧ Post w0 S0 hv st w key (slotOf (resAVs sp.outs r key)) (resStore sp.outs r key (putAll kk (obsOf sp.ks (drop sp.ks x')) st)) hv' v w' ∧ ∀ k, ¬ (key ≤ k ∧ k < key + 4) → hv' k = hv k := by
  obtain ⟨hvC, hvCe, hvCF⟩ : ∃ hvC : Hv, (∀ i, hvC i = (kk[i]?).bind hv) ∧ ∀ i, hvC.ft i = ftOf hv kk[i]? := ⟨⟨fun i => (kk[i]?).bind hv, fun i => ftOf hv kk[i]?⟩, fun _ => rfl, fun _ => rfl⟩
  have hvCft : ∀ i k, kk[i]? = some k → hvC.ft i = hv.ft k := fun i k hi => by rw [hvCF, hi]; rfl
  have hvCk : ∀ (i k : Nat), kk[i]? = some k → hvC (0 + i) = hv k := fun i k hi => by rw [Nat.zero_add, hvCe, hi]; rfl
  obtain ⟨hs1, hkl, hobs⟩ := slots_canon hst sp.ks 0 hread hsl hvCk
  obtain ⟨sto, hsto⟩ : ∃ s, s = storeOf 0 (obsOf sp.ks x) := ⟨_, rfl⟩
  have hget : ∀ i ob, sto.get i = some ob → ∃ k, kk[i]? = some k ∧ st.get k = some ob ∧ hvC i = hv k ∧ hvC.ft i = hv.ft k := fun i ob hi => by
    rw [hsto, get_storeOf, if_pos (by omega), Nat.sub_zero] at hi
    have hil := (List.getElem?_eq_some_iff.1 hi).1
    rw [obsOf_length, ← hkl] at hil
    have hki : kk[i]? = some kk[i] := List.getElem?_eq_getElem hil
    obtain ⟨ob', z1, z2⟩ := hobs i _ hki
    rw [hi] at z1
    injection z1 with z1
    subst z1
    exact ⟨_, hki, z2, by have := hvCk i _ hki; rwa [Nat.zero_add] at this, hvCft i _ hki⟩
  have hown : ∀ b, Own hvC sto b → Own hv st b := fun b ⟨i, ob, v, y1, y2, y3⟩ => by
    obtain ⟨k, z1, z2, z3, z4⟩ := hget i ob y1
    exact ⟨k, ob, v, z2, z3 ▸ y2, z4 ▸ y3⟩
  obtain ⟨S1, hS1⟩ : ∃ S1 : Nat → Prop, ∀ b, S1 b ↔ All S0 hv st b ∧ ¬ Own hvC sto b := ⟨fun b => All S0 hv st b ∧ ¬ Own hvC sto b, fun _ => Iff.rfl⟩
  have hall : All S1 hvC sto = All S0 hv st := funext fun b => propext ⟨fun hb => hb.elim (fun hb => ((hS1 b).1 hb).1) (fun hb => .inr (hown b hb)), fun hb => by
    by_cases ho : Own hvC sto b
    · exact .inr ho
    · exact .inl ((hS1 b).2 ⟨hb, ho⟩)⟩
  have hlt : ∀ b, All S0 hv st b → b < w.heap.size := fun b hb => by
    rcases hb with hb | ⟨k, ob, v, y1, y2, y3⟩
    · exact Nat.lt_of_lt_of_le (hs0 b hb) hkeep.size
    · exact hst.blk_lt y1 y2 y3
  have hstC : StRel w S1 hvC sto := by
    refine ⟨fun i ob hi => ?_, fun i ob v i' ob' v' b y1 y2 y3 y4 y5 y6 => ?_, fun b hb hb1 => ((hS1 b).1 hb1).2 hb, fun i d z v hi hv1 => ?_, fun i t n hi => ?_⟩
    · obtain ⟨k, z1, z2, z3, z4⟩ := hget i ob hi
      obtain ⟨v, p1, p2⟩ := hst.objs k ob z2
      rw [hall]
      exact ⟨v, z3.trans p1, p2.hv_free (get_mem (hsto ▸ hi))⟩
    · obtain ⟨k, z1, z2, z3, z4⟩ := hget i ob y1
      obtain ⟨k', z1', z2', z3', z4'⟩ := hget i' ob' y4
      have := hst.inj k ob v k' ob' v' b z2 (z3 ▸ y2) (z4 ▸ y3) z2' (z3' ▸ y5) (z4' ▸ y6)
      subst this
      exact (List.getElem?_inj (List.getElem?_eq_some_iff.1 z1).1 hnd).1 (z1.trans z1'.symm)
    · obtain ⟨k, z1, z2, z3, z4⟩ := hget i _ hi
      rw [hall, z4]
      exact hst.deep k d z v z2 (z3 ▸ hv1)
    · exact absurd rfl ((obsOf_kind sp.ks x _ (get_mem (hsto ▸ hi))).not_alias t n)
  refine (h x r x' hF w w0.n S1 hvC vals (Nat.le_trans w0.le hkeep.size) (fun b hb => hlt b ((hS1 b).1 hb).1) (hsto ▸ hstC) (by rw [← hsto, hall]; exact hs1) (fun b hb => hbase b (hown b (by rw [hsto]; exact hb)))).mono ?_
  rintro e w' ⟨v, vs, hv', rfl, rfl, e1, e2, e3, e4, e5, e6, e7, e8⟩
  rw [e8]
  rw [← hsto, hall] at e6
  obtain ⟨hv2, hv2a, hv2b, hv2aF, hv2kF, hv2bF⟩ : ∃ hv2 : Hv, (∀ i, i < freshes sp.outs → hv2 (key + i) = hv' (keysOf sp.ks + i)) ∧ (∀ k, ¬ (key ≤ k ∧ k < key + freshes sp.outs) → hv2 k = hv k) ∧
      (∀ i, i < freshes sp.outs → hv2.ft (key + i) = hv'.ft (keysOf sp.ks + i)) ∧ (∀ i k, ¬ (key ≤ k ∧ k < key + freshes sp.outs) → kk[i]? = some k → hv2.ft k = hv'.ft i) ∧ ∀ k, ¬ (key ≤ k ∧ k < key + freshes sp.outs) → k ∉ kk → hv2.ft k = hv.ft k := by
    refine ⟨⟨fun k => if key ≤ k ∧ k < key + freshes sp.outs then hv' (keysOf sp.ks + (k - key)) else hv k, fun k => if key ≤ k ∧ k < key + freshes sp.outs then hv'.ft (keysOf sp.ks + (k - key)) else (open Classical in if h : ∃ i, kk[i]? = some k then hv'.ft (Classical.choose h) else hv.ft k)⟩,
      fun i hi => by simp only []; rw [if_pos (by omega), Nat.add_sub_cancel_left], fun k hk => if_neg hk, fun i hi => by simp only []; rw [if_pos (by omega), Nat.add_sub_cancel_left], fun i k hk hi => ?_, fun k hk hn => ?_⟩
    · simp only []
      have h : ∃ i, kk[i]? = some k := ⟨i, hi⟩
      rw [if_neg hk, dif_pos h]
      have hc := Classical.choose_spec h
      have : Classical.choose h = i := (List.getElem?_inj (List.getElem?_eq_some_iff.1 hc).1 hnd).1 (hc.trans hi.symm)
      rw [this]
    · simp only []
      rw [if_neg hk, dif_neg fun ⟨i, hi⟩ => hn (List.mem_of_getElem? hi)]
  have hkfree : ∀ k v, hv k = some v → ¬ (key ≤ k ∧ k < key + freshes sp.outs) := fun k v hkv hh => by
    have := hk (k - key) (by omega)
    rw [show key + (k - key) = k by omega, hkv] at this
    cases this
  have hle : hv.le hv2 := fun k v hkv => by rw [hv2b k (hkfree k v hkv)]; exact hkv
  have hol := obsOf_length sp.ks x'
  obtain ⟨st2, hst2⟩ : ∃ s, s = resStore sp.outs r key (putAll kk (obsOf sp.ks x') st) := ⟨_, rfl⟩
  have hcase : ∀ (j : Nat) (ob : Ob), st2.get j = some ob → (∃ i, i < freshes sp.outs ∧ j = key + i ∧ (endStore sp r x').get (keysOf sp.ks + i) = some ob ∧ hv2.ft j = hv'.ft (keysOf sp.ks + i) ∧ ((∃ t xs, ob = .row t xs) ∨ ∃ d z, ob = .deep d z)) ∨
      (∃ i ob0, kk[i]? = some j ∧ (obsOf sp.ks x')[i]? = some ob ∧ (endStore sp r x').get i = some ob ∧ sto.get i = some ob0 ∧ st.get j = some ob0 ∧ hv2 j = hv j ∧ hv' i = hv j ∧ hv2.ft j = hv'.ft i) ∨ (j ∉ kk ∧ st.get j = some ob ∧ hv2 j = hv j ∧ hv2.ft j = hv.ft j) := by
    intro j ob hj
    rw [hst2, get_resStore] at hj
    split at hj
    · rename_i hjj
      left
      refine ⟨j - key, by omega, by omega, ?_, ?_, ?_⟩
      · unfold endStore
        rw [get_resStore, if_pos (by omega), Nat.add_sub_cancel_left]
        exact hj
      · have := hv2aF (j - key) (by omega)
        rwa [show key + (j - key) = j by omega] at this
      · rcases resStore_row sp.outs r 0 [] _ ob hj with h' | ⟨t, xs, rfl, _⟩ | ⟨d, z, rfl, _⟩
        · cases h'
        · exact .inl ⟨_, _, rfl⟩
        · exact .inr ⟨_, _, rfl⟩
    · right
      obtain ⟨g1, g2⟩ := get_putAll kk (obsOf sp.ks x') st j hnd (by omega)
      by_cases hm : j ∈ kk
      · obtain ⟨i, hi, hij⟩ := List.getElem_of_mem hm
        have hki : kk[i]? = some j := by rw [List.getElem?_eq_getElem hi, hij]
        rw [g1 i hki] at hj
        obtain ⟨ob0, z1, z2⟩ := hobs i j hki
        left
        refine ⟨i, ob0, hki, hj, ?_, ?_, z2, ?_, ?_, ?_⟩
        · unfold endStore
          rw [get_resStore, if_neg (by omega), get_storeOf, if_pos (by omega), Nat.sub_zero]
          exact hj
        · rw [hsto, get_storeOf, if_pos (by omega), Nat.sub_zero]
          exact z1
        · obtain ⟨v, p1, _⟩ := hst.objs j ob0 z2
          exact hv2b j (hkfree j v p1)
        · have := hvCk i j hki
          rw [Nat.zero_add] at this
          exact (e1 i (by omega)).trans this
        · obtain ⟨v, p1, _⟩ := hst.objs j ob0 z2
          exact hv2kF i j (hkfree j v p1) hki
      · right
        rw [g2 hm] at hj
        obtain ⟨v, p1, _⟩ := hst.objs j ob hj
        exact ⟨hm, hj, hv2b j (hkfree j v p1), hv2bF j (hkfree j v p1) hm⟩
  have hS0 : ∀ b, S0 b → S1 b := fun b hb => (hS1 b).2 ⟨.inl hb, fun ho => hst.out b (hown b ho) hb⟩
  have hothers : ∀ j ob u b, j ∉ kk → st.get j = some ob → hv j = some u → Bk (hv.ft j) ob u b → S1 b := fun j ob u b z1 z2 z3 y3 => by
    refine (hS1 b).2 ⟨.inr ⟨j, ob, u, z2, z3, y3⟩, fun ⟨i, o1, v1, p1, p2, p3⟩ => ?_⟩
    obtain ⟨k, q1, q2, q3, q4⟩ := hget i o1 p1
    have := hst.inj j ob u k o1 v1 b z2 z3 y3 q2 (q3 ▸ p2) (q4 ▸ p3)
    subst this
    exact z1 (List.mem_of_getElem? q1)
  have hwhere : ∀ j ob u b, st2.get j = some ob → hv2 j = some u → Bk (hv2.ft j) ob u b → (∃ m, (endStore sp r x').get m = some ob ∧ hv' m = some u ∧ Bk (hv'.ft m) ob u b ∧ ((∃ i, i < freshes sp.outs ∧ j = key + i ∧ m = keysOf sp.ks + i) ∨ (m < keysOf sp.ks ∧ kk[m]? = some j))) ∨
      (st.get j = some ob ∧ hv j = some u ∧ Bk (hv.ft j) ob u b ∧ S1 b) := by
    intro j ob u b y1 y2 y3
    rcases hcase j ob y1 with ⟨i, hi, rfl, z1, zf, _⟩ | ⟨i, ob0, z1, z2, z3, z4, z5, z6, z7, z8⟩ | ⟨z1, z2, z3, z4⟩
    · exact .inl ⟨_, z1, by rw [← hv2a i hi]; exact y2, zf ▸ y3, .inl ⟨i, hi, rfl, rfl⟩⟩
    · refine .inl ⟨i, z3, by rw [z7, ← z6]; exact y2, z8 ▸ y3, .inr ⟨?_, z1⟩⟩
      have := (List.getElem?_eq_some_iff.1 z1).1
      omega
    · exact .inr ⟨z2, z3 ▸ y2, z4 ▸ y3, hothers j ob u b z1 z2 (z3 ▸ y2) (z4 ▸ y3)⟩
  have hsubset : ∀ b, All S0 hv2 st2 b → All S1 hv' (endStore sp r x') b := by
    intro b hb
    rcases hb with hb | ⟨j, ob, u, y1, y2, y3⟩
    · exact .inl (hS0 b hb)
    · rcases hwhere j ob u b y1 y2 y3 with ⟨m, z1, z2, zb, _⟩ | ⟨_, _, _, z⟩
      · exact .inr ⟨m, ob, u, z1, z2, zb⟩
      · exact .inl z
  have hstep : StepOk w (All S0 hv st) w' (All S0 hv2 st2) := e6.sub hsubset
  have hs' : StepOk w' (All S1 hv' (endStore sp r x')) w' (All S0 hv2 st2) := (StepOk.refl _ _).sub hsubset
  have hnames : ∀ k j i, st2.get k = some (.alias j i) → AliRep w' hv2 st2 k j i := fun k j i hk => by
    rcases hcase k _ hk with ⟨i', hi, rfl, z1, _, z | z⟩ | ⟨i', ob0, z1, z2, z3, z4, z5, z6, z7, z8⟩ | ⟨z1, z2, z3, z4⟩
    · obtain ⟨_, _, z⟩ := z
      cases z
    · obtain ⟨_, _, z⟩ := z
      cases z
    · exact absurd rfl ((obsOf_kind sp.ks x' _ (List.mem_of_getElem? z2)).not_alias j i)
    · obtain ⟨d, xs, v, b, o, len, cap, p1, p2, p3, p4, p5, p6, p7, p8⟩ := hst.ali k j i z2
      exact p8.2.elim
  refine ⟨retOf vs, hv2, rfl, ?_, fun k hk => hv2b k (by omega)⟩
  show Post w0 S0 hv st w key (slotOf (resAVs sp.outs r key)) (resStore sp.outs r key (putAll kk (obsOf sp.ks x') st)) hv2 (retOf vs) w'
  rw [← hst2]
  refine ⟨hst.change hstep hle (fun j ob hj => ?_) (fun j ob u j' ob' u' b y1 y2 y3 y4 y5 y6 => ?_) (fun b ⟨j, ob, u, y1, y2, y3⟩ hb0 => ?_) hnames, hstep, hle, fun k hk => hv2b k (by omega), slotOf_rep (shift_res hs' sp.outs r (keysOf sp.ks) key vs hv2a e3), fun b ⟨j, ob, u, y1, y2, y3⟩ => ?_, hkeep.trans e5, fun k sl hk => ?_, fun b hb0 => e7 b (hS0 b hb0)⟩
  · rcases hcase j ob hj with ⟨i, hi, rfl, z1, zf, zk⟩ | ⟨i, ob0, z1, z2, z3, z4, z5, z6, z7, z8⟩ | ⟨z1, z2, z3, z4⟩
    · obtain ⟨v, p1, p2⟩ := e2.objs _ _ z1
      rcases zk with ⟨t, xs, rfl⟩ | ⟨d, z, rfl⟩
      · refine .inr ⟨v, (hv2a i hi).trans p1, ?_, fun d z e => by cases e⟩
        rcases p2 with q | ⟨b, off, cap, cells, ty, q1, w1, w2, w3, w4, w5⟩
        · exact .inl q
        · refine .inr ⟨b, off, cap, cells, ty, q1, w1, w2, w3, w4, fun i x hx => ?_⟩
          obtain ⟨es, v1, v2⟩ := w5 i x hx
          exact ⟨es, v1.step hs', v2⟩
      · refine .inr ⟨v, (hv2a i hi).trans p1, p2, fun d' z' e => ?_⟩
        injection e with q1 q2
        subst q1
        have q2 := eq_of_heq q2
        subst q2
        obtain ⟨r1, r2⟩ := e2.deep _ d z v z1 p1
        rw [zf]
        exact ⟨r1.step hs' fun _ _ => rfl, r2⟩
    · obtain ⟨v, p1, p2⟩ := e2.objs _ _ z3
      refine .inr ⟨v, by rw [z6, ← z7]; exact p1, (p2.hv_free (hv' := hv2) (List.mem_of_getElem? z2)).step hs' (Hv.le_refl _) fun _ _ => rfl, fun d z e => ?_⟩
      subst e
      obtain ⟨r1, r2⟩ := e2.deep _ d z v z3 p1
      rw [z8]
      exact ⟨r1.step hs' fun _ _ => rfl, r2⟩
    · exact .inl ⟨z2, z4, fun v b p1 p2 => e7 b (hothers j ob v b z1 z2 p1 p2)⟩
  · rcases hwhere j ob u b y1 y2 y3 with ⟨m, z1, z2, zb, z3⟩ | ⟨z1, z2, zb, z3⟩
    · rcases hwhere j' ob' u' b y4 y5 y6 with ⟨m', z1', z2', zb', z3'⟩ | ⟨_, _, _, z3'⟩
      · have := e2.inj _ _ _ _ _ _ _ z1 z2 zb z1' z2' zb'
        subst this
        rcases z3 with ⟨i, _, rfl, hm⟩ | ⟨hm, hk1⟩
        · rcases z3' with ⟨i', _, rfl, hm'⟩ | ⟨hm', _⟩ <;> omega
        · rcases z3' with ⟨i', _, rfl, hm'⟩ | ⟨_, hk2⟩
          · omega
          · rw [hk1] at hk2
            injection hk2
      · exact absurd z3' (e2.out b ⟨m, ob, u, z1, z2, zb⟩)
    · rcases hwhere j' ob' u' b y4 y5 y6 with ⟨m', z1', z2', zb', z3'⟩ | ⟨z1', z2', zb', _⟩
      · exact absurd z3 (e2.out b ⟨m', ob', u', z1', z2', zb'⟩)
      · exact hst.inj _ _ _ _ _ _ _ z1 z2 zb z1' z2' zb'
  · rcases hwhere j ob u b y1 y2 y3 with ⟨m, z1, z2, zb, _⟩ | ⟨z1, z2, zb, _⟩
    · exact e2.out b ⟨m, ob, u, z1, z2, zb⟩ (hS0 b hb0)
    · exact hst.out b ⟨j, ob, u, z1, z2, zb⟩ hb0
  · rcases hwhere j ob u b y1 y2 y3 with ⟨m, z1, z2, zb, _⟩ | ⟨z1, z2, zb, _⟩
    · exact e4 b ⟨m, ob, u, z1, z2, zb⟩
    · exact hbase b ⟨j, ob, u, z1, z2, zb⟩
  · rcases hcase k _ hk with ⟨i, hi, rfl, z1, _, z | z⟩ | ⟨i, ob0, z1, z2, z3, z4, z5, z6, z7, z8⟩ | ⟨z1, z2, z3, _⟩
    · obtain ⟨_, _, h'⟩ := z
      cases h'
    · obtain ⟨_, _, h'⟩ := z
      cases h'
    · exact absurd rfl ((obsOf_kind sp.ks x' _ (List.mem_of_getElem? z2)).not_ghost sl)
    · rw [z3]
      exact hgh k sl z2
theorem layD_parts : ∀ (d : DT) (x : d.den) (n : Nat), (layD d x n).2.length = d.parts
  | .val _, _, _ => rfl
  | .row _, _, _ => rfl
  | .map _ _, _, _ => rfl
  | .box _, _, _ => rfl
  | .pair a b, x, n => by simp [layD, DT.parts, layD_parts a, layD_parts b]
  | .unit, _, _ => rfl
  | .drow _, _, _ => rfl
  | .trie, _, _ => rfl
section
variable {w : World} {S0 : Nat → Prop}
theorem openAtD_rel {hv : Hv} {st : Store} (h : StRel w S0 hv st) (d : DT) (k n : Nat) (hfr : ∀ j, n ≤ j → j < n + d.parts → hv j = none) : ∃ hv' : Hv, StRel w S0 hv' (openAtD d st k n).1 ∧ hv.le hv' ∧ (∀ j, ¬ (n ≤ j ∧ j < n + d.parts) → hv' j = hv j) ∧ (∀ j, (openAtD d st k n).2 ≤ j → j < n + d.parts → hv' j = none) ∧ (openAtD d st k n).2 ≤ n + d.parts ∧
    (∀ b, Own hv' (openAtD d st k n).1 b → Own hv st b) ∧ (∀ j sl, (openAtD d st k n).1.get j = some (.ghost sl) → st.get j = some (.ghost sl)) ∧ n ≤ (openAtD d st k n).2 := by
  unfold openAtD
  split
  · rename_i d' x hg
    split
    · rename_i e
      subst e
      have hp := layD_parts d' x n
      obtain ⟨hv', h1, h2, h3, h4, h5⟩ := h.open_ hg (n := n) fun j hj hj' => hfr j hj (by omega)
      exact ⟨hv', h1, h2, fun j hj => (h3 j (by omega)).1, fun j hj hj' => by simp only at hj; omega, by simp only; omega, h4, h5, Nat.le_add_right _ _⟩
    · exact ⟨hv, h, Hv.le_refl _, fun _ _ => rfl, hfr, Nat.le_add_right _ _, fun _ h => h, fun _ _ h => h, Nat.le_refl _⟩
  · exact ⟨hv, h, Hv.le_refl _, fun _ _ => rfl, hfr, Nat.le_add_right _ _, fun _ h => h, fun _ _ h => h, Nat.le_refl _⟩
theorem reopen1_rel (st0 : Store) (d : DT) (a : Slot) (p : Store × Nat) {hv : Hv} (h : StRel w S0 hv p.1) (hf : ∀ j, p.2 ≤ j → j < p.2 + reopens1 st0 d a → hv j = none) :
    ∃ hv' : Hv, StRel w S0 hv' (reopen1 st0 d a p).1 ∧ hv.le hv' ∧ (∀ j, ¬ (p.2 ≤ j ∧ j < p.2 + reopens1 st0 d a) → hv' j = hv j) ∧ (∀ j, (reopen1 st0 d a p).2 ≤ j → j < p.2 + reopens1 st0 d a → hv' j = none) ∧ (reopen1 st0 d a p).2 ≤ p.2 + reopens1 st0 d a ∧
    (∀ b, Own hv' (reopen1 st0 d a p).1 b → Own hv p.1 b) ∧ (∀ j sl, (reopen1 st0 d a p).1.get j = some (.ghost sl) → p.1.get j = some (.ghost sl)) ∧ p.2 ≤ (reopen1 st0 d a p).2 := by
  have stay : ∃ hv' : Hv, StRel w S0 hv' p.1 ∧ hv.le hv' ∧ (∀ j, ¬ (p.2 ≤ j ∧ j < p.2 + 0) → hv' j = hv j) ∧ (∀ j, p.2 ≤ j → j < p.2 + 0 → hv' j = none) ∧ p.2 ≤ p.2 + 0 ∧
    (∀ b, Own hv' p.1 b → Own hv p.1 b) ∧ (∀ j sl, p.1.get j = some (.ghost sl) → p.1.get j = some (.ghost sl)) ∧ p.2 ≤ p.2 :=
    ⟨hv, h, Hv.le_refl _, fun _ _ => rfl, fun j _ _ => by omega, Nat.le_add_right _ _, fun _ h => h, fun _ _ h => h, Nat.le_refl _⟩
  by_cases ha : ∃ k cs, a = .one (.ref k 0 0 0) ∧ st0.get k = some (.cells cs)
  · obtain ⟨k, cs, rfl, hk⟩ := ha
    have e1 : reopen1 st0 d (.one (.ref k 0 0 0)) p = openAtD d p.1 k p.2 := by
      show (match st0.get k with
        | some (.cells _) => openAtD d p.1 k p.2
        | _ => p) = _
      rw [hk]
    have e2 : reopens1 st0 d (.one (.ref k 0 0 0)) = d.parts := by
      show (match st0.get k with
        | some (.cells _) => d.parts
        | _ => 0) = _
      rw [hk]
    rw [e1, e2]
    rw [e2] at hf
    exact openAtD_rel h d k p.2 hf
  · have e1 : reopen1 st0 d a p = p := by
      unfold reopen1
      split
      · split
        · rename_i k _ cs e
          exact absurd ⟨k, cs, rfl, e⟩ ha
        · rfl
      · rfl
    have e2 : reopens1 st0 d a = 0 := by
      unfold reopens1
      split
      · split
        · rename_i k _ cs e
          exact absurd ⟨k, cs, rfl, e⟩ ha
        · rfl
      · rfl
    rw [e1, e2]
    exact stay
theorem reopen_rel (st0 : Store) : ∀ (ks : List AK) (l : List Slot) (p : Store × Nat) (hv : Hv), StRel w S0 hv p.1 → (∀ j, p.2 ≤ j → j < p.2 + reopens st0 ks l → hv j = none) →
    ∃ hv' : Hv, StRel w S0 hv' (reopen st0 ks l p).1 ∧ hv.le hv' ∧ (∀ j, ¬ (p.2 ≤ j ∧ j < p.2 + reopens st0 ks l) → hv' j = hv j) ∧ (∀ b, Own hv' (reopen st0 ks l p).1 b → Own hv p.1 b) ∧ ∀ j sl, (reopen st0 ks l p).1.get j = some (.ghost sl) → p.1.get j = some (.ghost sl)
  | [], _, p, hv, h, _ => ⟨hv, by simpa [reopen] using h, Hv.le_refl _, fun _ _ => rfl, fun _ h => by simpa [reopen] using h, fun _ _ h => by simpa [reopen] using h⟩
  | _ :: _, [], p, hv, h, _ => ⟨hv, by simpa [reopen] using h, Hv.le_refl _, fun _ _ => rfl, fun _ h => by simpa [reopen] using h, fun _ _ h => by simpa [reopen] using h⟩
  | k :: r, a :: l, p, hv, h, hf => by
    by_cases hb : ∃ d, k = .deep (.box d)
    · obtain ⟨d, rfl⟩ := hb
      simp only [reopen]
      simp only [reopens] at hf ⊢
      obtain ⟨hv1, a1, a2, a3, a4, a5, a6, a7, a8⟩ := reopen1_rel st0 d a p h fun j hj hj' => hf j hj (by omega)
      obtain ⟨hv2, b1, b2, b3, b4, b5⟩ := reopen_rel st0 r l (reopen1 st0 d a p) hv1 a1 fun j hj hj' => by
        by_cases hlt : j < p.2 + reopens1 st0 d a
        · exact a4 j hj hlt
        · rw [a3 j (by omega)]
          exact hf j (by omega) (by omega)
      exact ⟨hv2, b1, fun j v hj => b2 j v (a2 j v hj), fun j hj => by rw [b3 j (by omega), a3 j (by omega)], fun b hb => a6 b (b4 b hb), fun j sl hj => a7 j sl (b5 j sl hj)⟩
    · have e1 : reopen st0 (k :: r) (a :: l) p = reopen st0 r l p := by
        rw [reopen]
        exact fun d e => hb ⟨d, e⟩
      have e2 : reopens st0 (k :: r) (a :: l) = reopens st0 r l := by
        rw [reopens]
        exact fun d e => hb ⟨d, e⟩
      rw [e1, e2]
      rw [e2] at hf
      exact reopen_rel st0 r l p hv h hf
end
theorem ext_of_by0 {tr : Bool} {P : Program} {f : FuncId} {sp : BySpec} (h : By tr P f sp) :
  ∀ (w0 : Base) (w : World) (S0 : Nat → Prop) (hv : Hv) (st : Store) (key : Nat) (as : List Slot) (vals : List Value) (R : ExtR) (d : R.D), w0.tr = tr → extBy0 sp key as st = some R → R.val = some d → StRel w S0 hv st → All2 (SlotRep w (All S0 hv st) hv) as vals →
    (∀ b, Own hv st b → w0.n ≤ b) → (∀ b, S0 b → b < w0.w.heap.size) → Below w0.tr w0.n w0.w w → (∀ k sl, st.get k = some (.ghost sl) → hv k = some w0.g) → (∀ j, j < 12 → hv (key + j) = none) →
    Calls P f vals.toArray w fun e w' => ∃ v hv', e = .returned v ∧ Post w0 S0 hv st w key (R.out d).1 (R.out d).2 hv' v w' := by
  intro w0 w S0 hv st key as vals R d htr hX hd hst hsl hbase hs0 hkeep hgh hk
  subst htr
  unfold extBy0 at hX
  split at hX
  rotate_left
  · cases hX
  rename_i st1 hst1
  split at hX
  rotate_left
  · cases hX
  rename_i x kk hread
  cases hc : nodupB kk && Nat.ble (freshes sp.outs) 4 && Nat.ble (4 + reopens st sp.ks as) 12 with
  | false => rw [hc] at hX; cases hX
  | true =>
  rw [hc] at hX
  simp only [if_true, Option.some.injEq] at hX
  subst hX
  obtain ⟨r, x'⟩ := d
  simp only [Bool.and_eq_true, Nat.ble_eq] at hc
  obtain ⟨⟨c1, c3⟩, c4⟩ := hc
  have hF : sp.F x = some (r, x') := hd
  obtain ⟨f1, f2⟩ := freezes_rel (argRows sp.ks as) hst
  obtain ⟨hvA, cA⟩ := foldArgs_rel sp.ks as _ hv st1 f1 hst1
  have hs1 : StepOk w (All S0 hv st) w (All S0 hvA st1) := (StepOk.refl _ _).sub fun b hb => hb.imp id fun hb => f2 b (cA.own b hb)
  have hle1 := cA.le
  have hvA : ∀ j, hvA j = hv j := fun j => by rw [cA.val]
  refine (ext_core h hread (nodupB_sound c1) c3 hF cA.rel (hsl.mono fun _ _ r => SlotRep.step hs1 hle1 r) (fun b hb => hbase b (f2 b (cA.own b hb))) hs0 hkeep (fun k sl hk => by
    have := cA.gh k sl hk
    rcases get_freezes (argRows sp.ks as) st k with q | ⟨e, xs, _, q, _⟩
    · rw [hvA]
      exact hgh k sl (q ▸ this)
    · rw [q] at this
      cases this) (key := key) (fun j hj => by rw [hvA]; exact hk j hj)).mono ?_
  rintro e w' ⟨v, hv2, rfl, hp, honly⟩
  obtain ⟨hv3, b1, b2, b3, b4, b5⟩ := reopen_rel st sp.ks as (resStore sp.outs r key (putAll kk (obsOf sp.ks (drop sp.ks x')) st1), key + 4) hv2 hp.rel fun j hj hj' => by
    simp only at hj hj'
    rw [honly j (by omega), hvA]
    have := hk (j - key) (by omega)
    rwa [show key + (j - key) = j by omega] at this
  have hs3 : StepOk w' (All S0 hv2 (resStore sp.outs r key (putAll kk (obsOf sp.ks (drop sp.ks x')) st1))) w' (All S0 hv3 (reopen st sp.ks as (resStore sp.outs r key (putAll kk (obsOf sp.ks (drop sp.ks x')) st1), key + 4)).1) := (StepOk.refl _ _).sub fun b hb => hb.imp id (b4 b)
  have hkeys : ∀ j, (j < key ∨ key + 16 ≤ j) → hv3 j = hv j := fun j hj => by
    rw [b3 j (by simp only; omega), honly j (by omega), hvA]
  refine ⟨v, hv3, rfl, b1, (hs1.trans hp.step).trans hs3, fun j u hj => b2 j u (hp.le j u (hle1 j u hj)), hkeys, hp.rep.step hs3 b2, fun b hb => hp.base b (b4 b hb), hp.keep, fun k sl hk' => ?_, hp.kp⟩
  have h1 := b5 k sl hk'
  have h2 := hp.gh k sl h1
  exact b2 _ _ h2
theorem nils_rel {w : World} {S0 : Nat → Prop} (hs0 : ∀ b, S0 b → b < w.heap.size) : ∀ (ks : List AK) (as : List Slot) (st : Store) (n : Nat) (hv : Hv) (vals : List Value), StRel w S0 hv st → (∀ j, n ≤ j → j < n + gives ks → hv j = none) → All2 (SlotRep w (All S0 hv st) hv) as vals →
    ∃ hv', Shut2 w S0 hv st hv' (nils ks as st n).2 ∧ (∀ j, ¬ (n ≤ j ∧ j < n + gives ks) → hv' j = hv j) ∧ All2 (SlotRep w (All S0 hv' (nils ks as st n).2) hv') (nils ks as st n).1 vals
  | [], as, st, n, hv, vals, h, hf, hl => by
    have e : nils [] as st n = (as, st) := by simp [nils]
    rw [e]
    exact ⟨hv, ⟨Hv.le_refl _, h, fun _ h => h, fun _ _ h => h⟩, fun _ _ => rfl, hl⟩
  | k :: ks, [], st, n, hv, vals, h, hf, hl => by
    have e : nils (k :: ks) [] st n = ([], st) := by cases k <;> simp [nils]
    rw [e]
    exact ⟨hv, ⟨Hv.le_refl _, h, fun _ h => h, fun _ _ h => h⟩, fun _ _ => rfl, hl⟩
  | k :: ks, a :: as, st, n, hv, [], h, hf, hl => hl.elim
  | k :: ks, a :: as, st, n, hv, v :: vals, h, hf, hl => by
    have plain : ∀ m, gives (k :: ks) = gives ks + m → nils (k :: ks) (a :: as) st n = (a :: (nils ks as st n).1, (nils ks as st n).2) → ∃ hv', Shut2 w S0 hv st hv' (nils (k :: ks) (a :: as) st n).2 ∧ (∀ j, ¬ (n ≤ j ∧ j < n + gives (k :: ks)) → hv' j = hv j) ∧ All2 (SlotRep w (All S0 hv' (nils (k :: ks) (a :: as) st n).2) hv') (nils (k :: ks) (a :: as) st n).1 (v :: vals) := by
      intro m hm e
      rw [e, hm]
      rw [hm] at hf
      obtain ⟨hv', c1, c2, c3⟩ := nils_rel hs0 ks as st n hv vals h (fun j hj hj' => hf j hj (by omega)) hl.2
      exact ⟨hv', c1, fun j hj => c2 j (by omega), SlotRep.step c1.step c1.le hl.1, c3⟩
    by_cases hg : ∃ e, k = .give e
    · obtain ⟨e, rfl⟩ := hg
      by_cases ha : a = .one .nil
      · subst ha
        have e1 : nils (.give e :: ks) (.one .nil :: as) st n = (.one (.own n) :: (nils ks as (st.put n (.row e [])) (n + 1)).1, (nils ks as (st.put n (.row e [])) (n + 1)).2) := by simp [nils]
        rw [e1]
        have hg : gives (.give e :: ks) = gives ks + 1 := rfl
        rw [hg] at hf ⊢
        have hn := hf n (Nat.le_refl _) (by omega)
        have hnil : v = .slice none 0 0 := hl.1
        obtain ⟨r1, r2, r3, r4⟩ := h.lay hn n (.slice none 0 0) (.row e []) rfl (fun p hp => by rw [h.fresh hn] at hp; cases hp) (w' := w) hs0 (fun b hb => by simp [blk] at hb) (fun _ _ _ => rfl) (fun _ => .inl ⟨none, rfl, rfl⟩)
        rw [erase_none (h.fresh hn)] at r1 r2 r4
        have hown : ∀ b, Own (hv.put n (.slice none 0 0)) (st.put n (.row e [])) b → Own hv st b := fun b ⟨j, o, u, y1, y2, y3⟩ => by
          rw [get_put] at y1
          split at y1
          · rename_i e1
            subst e1
            injection y1 with y1
            subst y1
            rw [Hv.put_same] at y2
            injection y2 with y2
            subst y2
            have y3 : blk (.row e []) (.slice none 0 0) = some b := y3
            simp [blk] at y3
          · rename_i e1
            rw [Hv.put_ne e1] at y2
            exact ⟨j, o, u, y1, y2, by
              have : (hv.put n (.slice none 0 0)).ft j = hv.ft j := by simp [Hv.put]
              rwa [this] at y3⟩
        have c0 : Shut2 w S0 hv st (hv.put n (.slice none 0 0)) (st.put n (.row e [])) := ⟨r3, r1, hown, fun j sl hj => by
          rw [get_put] at hj
          split at hj
          · cases hj
          · exact hj⟩
        obtain ⟨hv', c1, c2, c3⟩ := nils_rel hs0 ks as (st.put n (.row e [])) (n + 1) (hv.put n (.slice none 0 0)) vals r1 (fun j hj hj' => by rw [Hv.put_ne (by omega)]; exact hf j (by omega) (by omega)) (hl.2.mono fun _ _ q => SlotRep.step c0.step c0.le q)
        refine ⟨hv', c0.trans c1, fun j hj => by rw [c2 j (by omega), Hv.put_ne (by omega)], ⟨c1.le _ _ (by subst hnil; exact Hv.put_same), by subst hnil; trivial⟩, c3⟩
      · refine plain 1 rfl ?_
        rw [nils]
        exact fun e => ha e
    · refine plain 0 ?_ ?_
      · cases k <;> first | rfl | exact absurd ⟨_, rfl⟩ hg
      · cases k <;> first | rfl | exact absurd ⟨_, rfl⟩ hg
theorem ext_of_by {tr : Bool} {P : Program} {f : FuncId} {sp : BySpec} (h : By tr P f sp) : ExtOk tr P f (extBy sp) := by
  intro w0 w S0 hv st key as vals R d htr hX hd hst hsl hbase hs0 hkeep hgh hk
  unfold extBy at hX
  cases hg : Nat.ble (gives sp.ks) 4 with
  | false => rw [hg] at hX; cases hX
  | true =>
  rw [hg] at hX
  have hg := Nat.le_of_ble_eq_true hg
  simp only [cond_true] at hX
  obtain ⟨hv1, c1, c2, c3⟩ := nils_rel (fun b hb => Nat.lt_of_lt_of_le (hs0 b hb) hkeep.size) sp.ks as st (key + 12) hv vals hst (fun j hj hj' => by
    have := hk (j - key) (by omega)
    rwa [show key + (j - key) = j by omega] at this) hsl
  refine (ext_of_by0 h w0 w S0 hv1 _ key _ vals R d htr hX hd c1.rel c3 (fun b hb => hbase b (c1.own b hb)) hs0 hkeep (fun k sl hk' => c1.le _ _ (hgh k sl (c1.gh k sl hk'))) fun j hj => by rw [c2 _ (by omega)]; exact hk j (by omega)).mono ?_
  rintro e w' ⟨v, hv', rfl, hp⟩
  exact ⟨v, hv', rfl, hp.rel, c1.step.trans hp.step, fun k u hu => hp.le k u (c1.le k u hu), fun k hk' => by rw [hp.only k hk', c2 k (by omega)], hp.rep, hp.base, hp.keep, hp.gh, hp.kp⟩
end Go.Ev
end
section
set_option linter.unusedVariables false
set_option linter.unusedSimpArgs false
namespace Go.Ev
variable {st st1 st2 : Store}
theorem readCell_congr {t : Ty} {k : Nat} (h : st1.get k = st2.get k) : readCell t k st1 = readCell t k st2 := by unfold readCell; rw [h]
theorem readCaps_congr : ∀ {cs : List Ty} {ks : List Nat}, (∀ k ∈ ks, st1.get k = st2.get k) → readCaps st1 cs ks = readCaps st2 cs ks
  | [], [], _ => rfl
  | [], _ :: _, _ => rfl
  | _ :: _, [], _ => rfl
  | t :: cs, k :: ks, h => by
    simp only [readCaps]
    rw [readCell_congr (t := t) (h k (by simp)), readCaps_congr (cs := cs) (ks := ks) fun j hj => h j (by simp [hj])]
theorem deepGet_congr {d : DT} {k : Nat} (h : st1.get k = st2.get k) : deepGet st1 d k = deepGet st2 d k := by unfold deepGet; rw [h]
theorem deepAs_congr {d : DT} {a : Slot} (h : ∀ j ∈ a.keys, st1.get j = st2.get j) : deepAs st1 d a = deepAs st2 d a := by
  unfold deepAs
  split
  · rename_i k
    rw [deepGet_congr (h k (by simp [Slot.keys, AV.keys]))]
  · rename_i k
    rw [deepGet_congr (h k (by simp [Slot.keys, AV.keys]))]
  · rfl
theorem all_congr {α : Type} {f g : α → Bool} : ∀ {l : List α}, (∀ x ∈ l, f x = g x) → l.all f = l.all g
  | [], _ => rfl
  | x :: r, h => by simp only [List.all_cons]; rw [h x (by simp), all_congr fun y hy => h y (by simp [hy])]
theorem read_congr {k : AK} {a : Slot} (h : ∀ j ∈ a.keys, st1.get j = st2.get j) : k.read st1 a = k.read st2 a := by
  cases k with
  | pure t =>
    simp only [AK.read]
    unfold rdPure
    rw [slot_congr h, all_congr (f := stillRow st1) (g := stillRow st2) fun j hj => by unfold stillRow; rw [h j (Slot.rows_keys hj)]]
  | con t => rfl
  | row e =>
    simp only [AK.read]
    unfold rdRow
    split
    · rename_i j
      rw [wrow_congr (h j (by simp [Slot.keys, AV.keys]))]
    · rfl
  | cell t =>
    simp only [AK.read]
    unfold rdCell
    split
    · rename_i j
      rw [readCell_congr (h j (by simp [Slot.keys, AV.keys]))]
    · rfl
  | fn f cs =>
    simp only [AK.read]
    unfold rdFn
    split
    · rename_i f' ks
      rw [readCaps_congr (fun j hj => h j (by simpa [Slot.keys, AV.keys] using hj))]
    · rfl
  | map kt vt =>
    simp only [AK.read]
    unfold rdMap
    split
    · rename_i j
      rw [map_congr (h j (by simp [Slot.keys, AV.keys]))]
    · rfl
  | deep d =>
    simp only [AK.read]
    unfold rdDeep
    rw [deepAs_congr h]
  | give e =>
    simp only [AK.read]
    unfold rdGive
    split
    · rename_i j
      have hj := h j (by simp [Slot.keys, AV.keys])
      rw [wrow_congr hj, hj]
    · rfl
theorem readBy_congr : ∀ {ks : List AK} {as : List Slot}, (∀ j ∈ as.flatMap Slot.keys, st1.get j = st2.get j) → readBy st1 ks as = readBy st2 ks as
  | [], [], _ => rfl
  | [], _ :: _, _ => rfl
  | _ :: _, [], _ => rfl
  | k :: r, a :: as, h => by
    simp only [readBy]
    rw [read_congr (k := k) fun j hj => h j (by simp; exact .inl hj), readBy_congr (ks := r) (as := as) fun j hj => h j (by simp at hj ⊢; exact .inr hj)]
theorem freshKey_keys {a : Slot} {j : Nat} (h : j ∈ (freshKey a).toList) : j ∈ a.keys := by
  unfold freshKey at h
  split at h <;> simp_all [Slot.keys, AV.keys]
theorem read_keys {k : AK} {a : Slot} {x : k.den} {l : List Nat} (h : k.read st a = some (x, l)) : ∀ j ∈ l, j ∈ a.keys := by
  cases k with
  | pure t =>
    simp only [AK.read] at h
    unfold rdPure at h
    split at h
    · cases hb : a.rows.all (stillRow st) with
      | false => rw [hb] at h; cases h
      | true =>
        rw [hb] at h
        injection h with h
        injection h with _ h
        subst h
        intro j hj
        cases hj
    · cases h
  | con t =>
    simp only [AK.read] at h
    unfold rdCon at h
    split at h
    · split at h
      · injection h with h
        injection h with _ h
        subst h
        intro j hj
        cases hj
      · cases h
    · cases h
  | row e =>
    simp only [AK.read] at h
    unfold rdRow at h
    split at h
    · split at h
      · injection h with h
        injection h with _ h
        subst h
        intro j hj
        simpa [Slot.keys, AV.keys] using hj
      · cases h
    · cases h
  | cell t =>
    simp only [AK.read] at h
    unfold rdCell at h
    split at h
    · split at h
      · injection h with h
        injection h with _ h
        subst h
        intro j hj
        simpa [Slot.keys, AV.keys] using hj
      · cases h
    · cases h
  | fn f cs =>
    simp only [AK.read] at h
    unfold rdFn at h
    split at h
    · rename_i f' ks
      cases hb : Nat.beq f' f with
      | false => rw [hb] at h; cases h
      | true =>
        rw [hb] at h
        simp only [cond_true] at h
        split at h
        · injection h with h
          injection h with _ h
          subst h
          intro j hj
          simpa [Slot.keys, AV.keys] using hj
        · cases h
    · cases h
  | map kt vt =>
    simp only [AK.read] at h
    unfold rdMap at h
    split at h
    · split at h
      · injection h with h
        injection h with _ h
        subst h
        intro j hj
        simpa [Slot.keys, AV.keys] using hj
      · cases h
    · cases h
  | deep d =>
    simp only [AK.read] at h
    unfold rdDeep at h
    split at h
    · injection h with h
      injection h with _ h
      subst h
      intro j hj
      exact freshKey_keys hj
    · cases h
  | give e =>
    simp only [AK.read] at h
    unfold rdGive at h
    split at h
    · split at h
      · injection h with h
        injection h with _ h
        subst h
        intro j hj
        simpa [Slot.keys, AV.keys] using hj
      · split at h
        · injection h with h
          injection h with _ h
          subst h
          intro j hj
          simpa [Slot.keys, AV.keys] using hj
        · cases h
    · cases h
theorem readBy_keys : ∀ {ks : List AK} {as : List Slot} {x : Data ks} {l : List Nat}, readBy st ks as = some (x, l) → ∀ j ∈ l, j ∈ as.flatMap Slot.keys
  | [], [], x, l, h, j, hj => by
    simp only [readBy, Option.some.injEq, Prod.mk.injEq] at h
    obtain ⟨_, rfl⟩ := h
    cases hj
  | [], _ :: _, _, _, h, _, _ => by simp [readBy] at h
  | _ :: _, [], _, _, h, _, _ => by simp [readBy] at h
  | k :: r, a :: as, x, l, h, j, hj => by
    simp only [readBy] at h
    split at h
    · rename_i y l1 h1
      split at h
      · rename_i z l2 h2
        simp only [Option.some.injEq, Prod.mk.injEq] at h
        obtain ⟨_, rfl⟩ := h
        simp only [List.flatMap_cons, List.mem_append] at hj ⊢
        exact hj.imp (read_keys h1 j) (readBy_keys h2 j)
      · cases h
    · cases h
theorem putAll_pw {j : Nat} : ∀ (kk : List Nat) (os : List Ob) {st1 st2 : Store}, st1.get j = st2.get j → (putAll kk os st1).get j = (putAll kk os st2).get j
  | [], _, _, _, h => h
  | _ :: _, [], _, _, h => h
  | k :: kk, o :: os, _, _, h => putAll_pw kk os (put_pw h)
theorem putAll_ne {j : Nat} : ∀ (kk : List Nat) (os : List Ob) {st : Store}, j ∉ kk → (putAll kk os st).get j = st.get j
  | [], _, _, _ => rfl
  | _ :: _, [], _, _ => rfl
  | k :: kk, o :: os, st, h => by
    simp only [putAll]
    rw [putAll_ne kk os fun hj => h (List.mem_cons_of_mem _ hj), get_put, if_neg fun e => h (by simp [e])]
theorem rdD_sub : ∀ {d : DT} {cs : List AV} {x : d.den} {ks : List Nat} {r : List AV}, rdD st d cs = some (x, ks, r) → (∃ p, cs = p ++ r) ∧ ∀ j ∈ ks, j ∈ cs.flatMap AV.keys
  | .val t, cs, x, ks, r, h => by
    simp only [rdD] at h
    split at h
    · rename_i y r1 hg
      simp only [Option.some.injEq, Prod.mk.injEq] at h
      obtain ⟨_, rfl, rfl⟩ := h
      exact ⟨gather_suffix hg, fun j hj => by cases hj⟩
    · cases h
  | .row e, [], x, ks, r, h => by simp [rdD] at h
  | .map _ _, [], x, ks, r, h => by simp [rdD] at h
  | .box _, [], x, ks, r, h => by simp [rdD] at h
  | .drow _, [], x, ks, r, h => by simp [rdD] at h
  | .trie, [], x, ks, r, h => by simp [rdD] at h
  | .unit, cs, x, ks, r, h => by
    simp only [rdD, Option.some.injEq, Prod.mk.injEq] at h
    obtain ⟨_, rfl, rfl⟩ := h
    exact ⟨⟨[], rfl⟩, fun j hj => by cases hj⟩
  | .row e, c :: l, x, ks, r, h => by
    simp only [rdD] at h
    split at h
    · split at h
      · simp only [Option.some.injEq, Prod.mk.injEq] at h
        obtain ⟨_, rfl, rfl⟩ := h
        exact ⟨⟨[_], rfl⟩, fun j hj => by simp at hj; simp [AV.keys, hj]⟩
      · cases h
    · simp only [Option.some.injEq, Prod.mk.injEq] at h
      obtain ⟨_, rfl, rfl⟩ := h
      exact ⟨⟨[_], rfl⟩, fun j hj => by cases hj⟩
    · split at h
      · split at h
        · simp only [Option.some.injEq, Prod.mk.injEq] at h
          obtain ⟨_, rfl, rfl⟩ := h
          exact ⟨⟨[_], rfl⟩, fun j hj => by simp at hj; simp [AV.keys, hj]⟩
        · cases h
      · cases h
    · cases h
  | .map _ _, c :: l, x, ks, r, h => by
    simp only [rdD] at h
    split at h
    · split at h
      · simp only [Option.some.injEq, Prod.mk.injEq] at h
        obtain ⟨_, rfl, rfl⟩ := h
        exact ⟨⟨[_], rfl⟩, fun j hj => by simp at hj; simp [AV.keys, hj]⟩
      · cases h
    · cases h
  | .box _, c :: l, x, ks, r, h => by
    simp only [rdD] at h
    split at h
    · split at h
      · simp only [Option.some.injEq, Prod.mk.injEq] at h
        obtain ⟨_, rfl, rfl⟩ := h
        exact ⟨⟨[_], rfl⟩, fun j hj => by simp at hj; simp [AV.keys, hj]⟩
      · cases h
    · cases h
  | .drow _, c :: l, x, ks, r, h => by
    simp only [rdD] at h
    split at h
    · split at h
      · simp only [Option.some.injEq, Prod.mk.injEq] at h
        obtain ⟨_, rfl, rfl⟩ := h
        exact ⟨⟨[_], rfl⟩, fun j hj => by simp at hj; simp [AV.keys, hj]⟩
      · cases h
    · cases h
  | .trie, c :: l, x, ks, r, h => by
    simp only [rdD] at h
    split at h
    · split at h
      · simp only [Option.some.injEq, Prod.mk.injEq] at h
        obtain ⟨_, rfl, rfl⟩ := h
        exact ⟨⟨[_], rfl⟩, fun j hj => by simp at hj; simp [AV.keys, hj]⟩
      · cases h
    · cases h
  | .pair a b, cs, x, ks, r, h => by
    simp only [rdD] at h
    split at h
    · rename_i x1 ks1 r1 h1
      split at h
      · rename_i x2 ks2 r2 h2
        simp only [Option.some.injEq, Prod.mk.injEq] at h
        obtain ⟨_, rfl, rfl⟩ := h
        obtain ⟨⟨p, rfl⟩, a2⟩ := rdD_sub h1
        obtain ⟨⟨q, rfl⟩, b2⟩ := rdD_sub h2
        refine ⟨⟨p ++ q, by simp⟩, fun j hj => ?_⟩
        rcases List.mem_append.1 hj with hj | hj
        · exact a2 j hj
        · rw [List.flatMap_append]
          exact List.mem_append.2 (.inr (b2 j hj))
      · cases h
    · cases h
theorem rdD_congr : ∀ {d : DT} {cs : List AV}, (∀ k ∈ cs.flatMap AV.keys, st1.get k = st2.get k) → rdD st1 d cs = rdD st2 d cs
  | .val t, cs, h => by simp only [rdD]; rw [gather_congr h]
  | .row _, [], h => by simp [rdD]
  | .map _ _, [], h => by simp [rdD]
  | .box _, [], h => by simp [rdD]
  | .drow _, [], h => by simp [rdD]
  | .trie, [], h => by simp [rdD]
  | .unit, cs, h => by simp [rdD]
  | .row e, c :: l, h => by
    cases c with
    | own k => simp only [rdD]; rw [wrow_congr (h k (by simp [AV.keys]))]
    | view k sz lo n => simp only [rdD]; rw [wrow_congr (h k (by simp [AV.keys]))]
    | _ => simp only [rdD]
  | .map _ _, c :: l, h => by
    cases c with
    | own k => simp only [rdD]; rw [map_congr (h k (by simp [AV.keys]))]
    | _ => simp only [rdD]
  | .box _, c :: l, h => by
    simp only [rdD]
    split
    · rename_i k
      rw [deepGet_congr (h k (by simp [AV.keys]))]
    · rfl
  | .drow _, c :: l, h => by
    cases c with
    | own k => simp only [rdD]; rw [deepGet_congr (h k (by simp [AV.keys]))]
    | _ => simp only [rdD]
  | .trie, c :: l, h => by
    cases c with
    | own k => simp only [rdD]; rw [deepGet_congr (h k (by simp [AV.keys]))]
    | _ => simp only [rdD]
  | .pair a b, cs, h => by
    simp only [rdD]
    rw [rdD_congr (d := a) h]
    cases hg : rdD st2 a cs with
    | none => rfl
    | some p =>
      obtain ⟨x, ks, r⟩ := p
      obtain ⟨⟨q, rfl⟩, _⟩ := rdD_sub hg
      simp only
      rw [rdD_congr (d := b) fun k hk => h k (by rw [List.flatMap_append]; exact List.mem_append.2 (.inr hk))]
theorem mem_flat_take {k n : Nat} {cs : List AV} (h : k ∈ (cs.take n).flatMap AV.rows) : k ∈ cs.flatMap AV.keys := by
  obtain ⟨c, h1, h2⟩ := List.mem_flatMap.1 h
  exact List.mem_flatMap.2 ⟨c, List.mem_of_mem_take h1, rows_keys h2⟩
theorem mem_flat_drop {k n : Nat} {cs : List AV} (h : k ∈ (cs.drop n).flatMap AV.keys) : k ∈ cs.flatMap AV.keys := by
  obtain ⟨c, h1, h2⟩ := List.mem_flatMap.1 h
  exact List.mem_flatMap.2 ⟨c, List.mem_of_mem_drop h1, h2⟩
theorem frzD_keys : ∀ {d : DT} {cs : List AV} {k : Nat}, k ∈ frzD d cs → k ∈ cs.flatMap AV.keys
  | .val t, cs, k, h => mem_flat_take h
  | .pair a b, cs, k, h => by
    rcases List.mem_append.1 h with h | h
    · exact frzD_keys (d := a) h
    · exact mem_flat_drop (frzD_keys (d := b) h)
  | .row _, _, _, h => by cases h
  | .map _ _, _, _, h => by cases h
  | .box _, _, _, h => by cases h
  | .unit, _, _, h => by cases h
  | .drow _, _, _, h => by cases h
  | .trie, _, _, h => by cases h
theorem eraseAll_pw {k : Nat} : ∀ (l : List Nat) {st1 st2 : Store}, st1.get k = st2.get k → (eraseAll l st1).get k = (eraseAll l st2).get k
  | [], _, _, h => h
  | _ :: r, _, _, h => eraseAll_pw r (erase_pw h)
theorem leads_freezes {l : List Nat} {j k : Nat} (h : j ∈ leads (st.freezes l) k) : j ∈ leads st k := by
  unfold leads at h ⊢
  rcases get_freezes l st k with q | ⟨e, xs, q1, q2, _⟩
  · rw [q] at h
    exact h
  · rw [q2] at h
    cases h
theorem foldAt_congr {k : Nat} {d : DT} {r1 : Store} (hf : foldAt st1 k d = some r1) (hk : st1.get k = st2.get k) (hl : ∀ j ∈ leads st1 k, st1.get j = st2.get j) : ∃ r2, foldAt st2 k d = some r2 ∧ ∀ j, st1.get j = st2.get j → r1.get j = r2.get j := by
  unfold foldAt at hf ⊢
  rw [← hk]
  split at hf
  · rename_i cs hg
    have hl : ∀ j ∈ cs.flatMap AV.keys, st1.get j = st2.get j := fun j hj => hl j (by unfold leads; rw [hg]; exact hj)
    try simp only [hg]
    rw [← rdD_congr (st1 := st1.freezes (frzD d cs)) fun j hj => freezes_pw _ (hl j hj)]
    split at hf
    · rename_i x ks hx
      try simp only
      cases hc : nodupB (k :: ks) with
      | false => rw [hc] at hf; cases hf
      | true =>
        rw [hc] at hf
        simp only [cond_true, Option.some.injEq] at hf ⊢
        subst hf
        exact ⟨_, rfl, fun j hj => put_pw (eraseAll_pw _ (freezes_pw _ hj))⟩
    · cases hf
  · rename_i d' x hg
    try simp only [hg]
    split at hf
    · rename_i e
      injection hf with hf
      subst hf
      exact ⟨st2, if_pos e, fun j hj => hj⟩
    · cases hf
  · cases hf
theorem foldAt_leads {k : Nat} {d : DT} {r : Store} (hf : foldAt st k d = some r) {i j : Nat} (h : i ∈ leads r j) : i ∈ leads st j := by
  unfold foldAt at hf
  split at hf
  · rename_i cs hg
    split at hf
    · rename_i x ks hx
      cases hc : nodupB (k :: ks) with
      | false => rw [hc] at hf; cases hf
      | true =>
        rw [hc] at hf
        simp only [cond_true, Option.some.injEq] at hf
        subst hf
        by_cases e1 : j = k
        · have e : ((eraseAll ks (st.freezes (frzD d cs))).put k (Ob.deep (.box d) x)).get j = some (.deep (.box d) x) := by rw [get_put, if_pos e1]
          unfold leads at h
          rw [e] at h
          cases h
        · have e : ((eraseAll ks (st.freezes (frzD d cs))).put k (Ob.deep (.box d) x)).get j = if j ∈ ks then none else (st.freezes (frzD d cs)).get j := by rw [get_put, if_neg e1, get_eraseAll]
          by_cases e2 : j ∈ ks
          · rw [if_pos e2] at e
            unfold leads at h
            rw [e] at h
            cases h
          · rw [if_neg e2] at e
            refine leads_freezes (l := frzD d cs) ?_
            unfold leads at h ⊢
            rw [e] at h
            exact h
    · cases hf
  · split at hf
    · injection hf with hf
      subst hf
      exact h
    · cases hf
  · cases hf
theorem foldAt_frame {k : Nat} {d : DT} {r : Store} (hf : foldAt st k d = some r) {j : Nat} (hj : j ≠ k) (hl : j ∉ leads st k) : r.get j = st.get j := by
  unfold foldAt at hf
  split at hf
  · rename_i cs hg
    have hl : j ∉ cs.flatMap AV.keys := fun h => hl (by unfold leads; rw [hg]; exact h)
    split at hf
    · rename_i x ks hx
      cases hc : nodupB (k :: ks) with
      | false => rw [hc] at hf; cases hf
      | true =>
        rw [hc] at hf
        simp only [cond_true, Option.some.injEq] at hf
        subst hf
        rw [get_put, if_neg hj, get_eraseAll, if_neg fun h => hl ((rdD_sub hx).2 j h)]
        rcases get_freezes (frzD d cs) st j with q | ⟨e, xs, q1, q2, q3⟩
        · exact q
        · exact absurd (frzD_keys q3) hl
    · cases hf
  · split at hf
    · injection hf with hf
      subst hf
      rfl
    · cases hf
  · cases hf
theorem reach1_iff {l : List Nat} {k : Nat} : k ∈ reach st 1 l ↔ k ∈ l ∨ ∃ j ∈ l, k ∈ leads st j := by
  simp only [reach, List.mem_append, List.mem_flatMap]
theorem foldArgs_congr : ∀ (ks : List AK) (as : List Slot) (st1 st2 r1 : Store), (∀ j ∈ reach st1 1 (as.flatMap Slot.keys), st1.get j = st2.get j) → foldArgs ks as st1 = some r1 → ∃ r2, foldArgs ks as st2 = some r2 ∧ ∀ j, st1.get j = st2.get j → r1.get j = r2.get j
  | [], _, st1, st2, r1, _, hf => by
    simp only [foldArgs, Option.some.injEq] at hf ⊢
    subst hf
    exact ⟨_, rfl, fun _ h => h⟩
  | _ :: _, [], st1, st2, r1, _, hf => by
    simp only [foldArgs, Option.some.injEq] at hf ⊢
    subst hf
    exact ⟨_, rfl, fun _ h => h⟩
  | k :: ks, a :: as, st1, st2, r1, h, hf => by
    have hr : ∀ j ∈ reach st1 1 (as.flatMap Slot.keys), st1.get j = st2.get j := fun j hj => h j (reach1_mono (fun i hi => by rw [List.flatMap_cons]; exact List.mem_append.2 (.inr hi)) j hj)
    by_cases hb : ∃ d, k = .deep (.box d)
    · obtain ⟨d, rfl⟩ := hb
      simp only [foldArgs] at hf ⊢
      split at hf
      · rename_i k'
        split at hf
        · rename_i s1 hs1
          have hkk : k' ∈ (Slot.one (.ref k' 0 0 0) :: as).flatMap Slot.keys := by simp [Slot.keys, AV.keys]
          obtain ⟨s2, hs2, hp⟩ := foldAt_congr (st2 := st2) hs1 (h k' (reach_base hkk)) fun j hj => h j (reach1' hkk hj)
          obtain ⟨r2, a1, a2⟩ := foldArgs_congr ks as s1 s2 r1 (fun j hj => hp j (hr j (by
            rw [reach1_iff] at hj ⊢
            exact hj.imp id fun ⟨i, hi, hj⟩ => ⟨i, hi, foldAt_leads hs1 hj⟩))) hf
          simp only [hs2]
          exact ⟨r2, a1, fun j hj => a2 j (hp j hj)⟩
        · cases hf
      · cases hf
    · have e : ∀ st, foldArgs (k :: ks) (a :: as) st = foldArgs ks as st := fun st => by
        rw [foldArgs]
        exact fun d e => hb ⟨d, e⟩
      rw [e] at hf ⊢
      exact foldArgs_congr ks as st1 st2 r1 hr hf
theorem foldArgs_frame : ∀ (ks : List AK) (as : List Slot) (st r : Store), foldArgs ks as st = some r → ∀ j, j ∉ reach st 1 (as.flatMap Slot.keys) → r.get j = st.get j
  | [], _, st, r, hf, j, _ => by
    simp only [foldArgs, Option.some.injEq] at hf
    subst hf
    rfl
  | _ :: _, [], st, r, hf, j, _ => by
    simp only [foldArgs, Option.some.injEq] at hf
    subst hf
    rfl
  | k :: ks, a :: as, st, r, hf, j, h => by
    have hr : j ∉ reach st 1 (as.flatMap Slot.keys) := fun hj => h (reach1_mono (fun i hi => by rw [List.flatMap_cons]; exact List.mem_append.2 (.inr hi)) j hj)
    by_cases hb : ∃ d, k = .deep (.box d)
    · obtain ⟨d, rfl⟩ := hb
      simp only [foldArgs] at hf
      split at hf
      · rename_i k'
        split at hf
        · rename_i s1 hs1
          have hkk : k' ∈ (Slot.one (.ref k' 0 0 0) :: as).flatMap Slot.keys := by simp [Slot.keys, AV.keys]
          rw [foldArgs_frame ks as s1 r hf j fun hj => hr (by
            rw [reach1_iff] at hj ⊢
            exact hj.imp id fun ⟨i, hi, hj⟩ => ⟨i, hi, foldAt_leads hs1 hj⟩)]
          exact foldAt_frame hs1 (fun e => h (by rw [e]; exact reach_base hkk)) fun hj => h (reach1' hkk hj)
        · cases hf
      · cases hf
    · have e : ∀ st, foldArgs (k :: ks) (a :: as) st = foldArgs ks as st := fun st => by
        rw [foldArgs]
        exact fun d e => hb ⟨d, e⟩
      rw [e] at hf
      exact foldArgs_frame ks as st r hf j hr
theorem argRows_keys : ∀ {ks : List AK} {as : List Slot} {j : Nat}, j ∈ argRows ks as → j ∈ as.flatMap Slot.keys
  | [], _, _, h => by simp [argRows] at h
  | _ :: _, [], _, h => by simp [argRows] at h
  | k :: ks, a :: as, j, h => by
    rw [List.flatMap_cons]
    cases k with
    | pure t =>
      simp only [argRows, List.mem_append] at h
      exact List.mem_append.2 (h.imp Slot.rows_keys argRows_keys)
    | _ => exact List.mem_append.2 (.inr (argRows_keys (ks := ks) (by simpa only [argRows] using h)))
theorem putOs_pw {j : Nat} : ∀ (os : List Ob) (n : Nat) {st1 st2 : Store}, st1.get j = st2.get j → (putOs n os st1).get j = (putOs n os st2).get j
  | [], _, _, _, h => h
  | _ :: r, n, _, _, h => putOs_pw r (n + 1) (put_pw h)
theorem openAtD_congr {d : DT} {k n : Nat} (h : st1.get k = st2.get k) : (openAtD d st1 k n).2 = (openAtD d st2 k n).2 ∧ ∀ j, st1.get j = st2.get j → (openAtD d st1 k n).1.get j = (openAtD d st2 k n).1.get j := by
  unfold openAtD
  rw [h]
  split
  · split
    · exact ⟨rfl, fun j hj => putOs_pw _ _ (put_pw hj)⟩
    · exact ⟨rfl, fun j hj => hj⟩
  · exact ⟨rfl, fun j hj => hj⟩
theorem openAtD_frame {d : DT} {k n j : Nat} (hk : j ≠ k) (hn : ¬ (n ≤ j ∧ j < n + d.parts)) : (openAtD d st k n).1.get j = st.get j := by
  unfold openAtD
  split
  · split
    · rename_i e
      subst e
      rw [get_putOs, if_neg (by rw [layD_parts]; exact hn), get_put, if_neg hk]
    · rfl
  · rfl
theorem openAtD_le {d : DT} {k n : Nat} : n ≤ (openAtD d st k n).2 ∧ (openAtD d st k n).2 ≤ n + d.parts := by
  unfold openAtD
  split
  · split
    · rename_i e
      subst e
      simp only [layD_parts]
      omega
    · simp only; omega
  · simp only; omega
theorem reopen1_congr {t1 t2 : Store} {d : DT} {a : Slot} {p1 p2 : Store × Nat} (ht : ∀ j ∈ a.keys, t1.get j = t2.get j) (hp : ∀ j ∈ a.keys, p1.1.get j = p2.1.get j) (hn : p1.2 = p2.2) :
    reopens1 t1 d a = reopens1 t2 d a ∧ (reopen1 t1 d a p1).2 = (reopen1 t2 d a p2).2 ∧ ∀ j, p1.1.get j = p2.1.get j → (reopen1 t1 d a p1).1.get j = (reopen1 t2 d a p2).1.get j := by
  unfold reopen1 reopens1
  split
  · rename_i k
    rw [ht k (by simp [Slot.keys, AV.keys])]
    split
    · obtain ⟨q1, q2⟩ := openAtD_congr (d := d) (n := p2.2) (hp k (by simp [Slot.keys, AV.keys]))
      rw [hn]
      exact ⟨rfl, q1, q2⟩
    · exact ⟨rfl, hn, fun _ h => h⟩
  · exact ⟨rfl, hn, fun _ h => h⟩
theorem reopen1_frame {t : Store} {d : DT} {a : Slot} {p : Store × Nat} : p.2 ≤ (reopen1 t d a p).2 ∧ (reopen1 t d a p).2 ≤ p.2 + reopens1 t d a ∧ ∀ j, j ∉ a.keys → ¬ (p.2 ≤ j ∧ j < p.2 + reopens1 t d a) → (reopen1 t d a p).1.get j = p.1.get j := by
  unfold reopen1 reopens1
  split
  · rename_i k
    split
    · exact ⟨openAtD_le.1, openAtD_le.2, fun j hj hn => openAtD_frame (fun e => hj (by simp [Slot.keys, AV.keys, e])) hn⟩
    · exact ⟨Nat.le_refl _, Nat.le_add_right _ _, fun _ _ _ => rfl⟩
  · exact ⟨Nat.le_refl _, Nat.le_add_right _ _, fun _ _ _ => rfl⟩
theorem reopen_congr {t1 t2 : Store} : ∀ (ks : List AK) (as : List Slot) (p1 p2 : Store × Nat), (∀ j ∈ as.flatMap Slot.keys, t1.get j = t2.get j) → (∀ j ∈ as.flatMap Slot.keys, p1.1.get j = p2.1.get j) → p1.2 = p2.2 →
    reopens t1 ks as = reopens t2 ks as ∧ ∀ j, p1.1.get j = p2.1.get j → (reopen t1 ks as p1).1.get j = (reopen t2 ks as p2).1.get j
  | [], _, p1, p2, _, _, _ => ⟨by simp [reopens], fun j h => by simpa only [reopen] using h⟩
  | _ :: _, [], p1, p2, _, _, _ => ⟨by simp [reopens], fun j h => by simpa only [reopen] using h⟩
  | k :: ks, a :: as, p1, p2, ht, hp, hn => by
    have ht1 : ∀ j ∈ a.keys, t1.get j = t2.get j := fun j hj => ht j (by rw [List.flatMap_cons]; exact List.mem_append.2 (.inl hj))
    have ht2 : ∀ j ∈ as.flatMap Slot.keys, t1.get j = t2.get j := fun j hj => ht j (by rw [List.flatMap_cons]; exact List.mem_append.2 (.inr hj))
    have hp1 : ∀ j ∈ a.keys, p1.1.get j = p2.1.get j := fun j hj => hp j (by rw [List.flatMap_cons]; exact List.mem_append.2 (.inl hj))
    have hp2 : ∀ j ∈ as.flatMap Slot.keys, p1.1.get j = p2.1.get j := fun j hj => hp j (by rw [List.flatMap_cons]; exact List.mem_append.2 (.inr hj))
    by_cases hb : ∃ d, k = .deep (.box d)
    · obtain ⟨d, rfl⟩ := hb
      obtain ⟨a1, a2, a3⟩ := reopen1_congr (d := d) ht1 hp1 hn
      obtain ⟨b1, b2⟩ := reopen_congr ks as (reopen1 t1 d a p1) (reopen1 t2 d a p2) ht2 (fun j hj => a3 j (hp2 j hj)) a2
      simp only [reopens, reopen]
      exact ⟨by rw [a1, b1], fun j hj => b2 j (a3 j hj)⟩
    · have e1 : ∀ t p, reopen t (k :: ks) (a :: as) p = reopen t ks as p := fun t p => by
        rw [reopen]
        exact fun d e => hb ⟨d, e⟩
      have e2 : ∀ t, reopens t (k :: ks) (a :: as) = reopens t ks as := fun t => by
        rw [reopens]
        exact fun d e => hb ⟨d, e⟩
      rw [e1, e1, e2, e2]
      exact reopen_congr ks as p1 p2 ht2 hp2 hn
theorem reopen_frame {t : Store} : ∀ (ks : List AK) (as : List Slot) (p : Store × Nat) (j : Nat), j ∉ as.flatMap Slot.keys → ¬ (p.2 ≤ j ∧ j < p.2 + reopens t ks as) → (reopen t ks as p).1.get j = p.1.get j
  | [], _, p, j, _, _ => by simp only [reopen]
  | _ :: _, [], p, j, _, _ => by simp only [reopen]
  | k :: ks, a :: as, p, j, h, hn => by
    rw [List.flatMap_cons] at h
    have h1 : j ∉ a.keys := fun hj => h (List.mem_append.2 (.inl hj))
    have h2 : j ∉ as.flatMap Slot.keys := fun hj => h (List.mem_append.2 (.inr hj))
    by_cases hb : ∃ d, k = .deep (.box d)
    · obtain ⟨d, rfl⟩ := hb
      simp only [reopens] at hn
      simp only [reopen]
      obtain ⟨a1, a2, a3⟩ := reopen1_frame (t := t) (d := d) (a := a) (p := p)
      rw [reopen_frame ks as _ j h2 (by omega), a3 j h1 (by omega)]
    · have e1 : reopen t (k :: ks) (a :: as) p = reopen t ks as p := by
        rw [reopen]
        exact fun d e => hb ⟨d, e⟩
      have e2 : reopens t (k :: ks) (a :: as) = reopens t ks as := by
        rw [reopens]
        exact fun d e => hb ⟨d, e⟩
      rw [e2] at hn
      rw [e1]
      exact reopen_frame ks as p j h2 hn
theorem ext_local0 (sp : BySpec) : ExtLocal (extBy0 sp) where
  congr key as st1 st2 R d hX hd hr := by
    have hk : ∀ j ∈ as.flatMap Slot.keys, st1.get j = st2.get j := fun j hj => hr j (reach_base hj)
    have hr1 : ∀ j ∈ reach st1 1 (as.flatMap Slot.keys), st1.get j = st2.get j := fun j hj => hr j (by
      rcases reach1_iff.1 hj with hj | ⟨i, hi, hj⟩
      · exact reach_base hj
      · refine List.mem_append.2 (.inr (reach_base (List.mem_flatMap.2 ⟨i, hi, hj⟩))))
    unfold extBy0 at hX ⊢
    split at hX
    · rename_i s1 hs1
      obtain ⟨s2, hs2, hp⟩ := foldArgs_congr sp.ks as _ (st2.freezes (argRows sp.ks as)) s1 (fun j hj => freezes_pw _ (hr1 j (by
        rw [reach1_iff] at hj ⊢
        exact hj.imp id fun ⟨i, hi, hj⟩ => ⟨i, hi, leads_freezes hj⟩))) hs1
      have hp : ∀ j, st1.get j = st2.get j → s1.get j = s2.get j := fun j hj => hp j (freezes_pw _ hj)
      simp only [hs2]
      rw [← readBy_congr (ks := sp.ks) fun j hj => hp j (hk j hj)]
      split at hX
      · rename_i x kk hread
        split at hX
        · rename_i hc
          injection hX with hX
          subst hX
          have hq := fun y : OTup sp.outs × Data sp.ks => reopen_congr sp.ks as (resStore sp.outs y.1 key (putAll kk (obsOf sp.ks (drop sp.ks y.2)) s1), key + 4) (resStore sp.outs y.1 key (putAll kk (obsOf sp.ks (drop sp.ks y.2)) s2), key + 4) hk (fun j hj => resStore_pw _ _ _ (putAll_pw _ _ (hp j (hk j hj)))) rfl
          rw [(hq d).1] at hc
          refine ⟨⟨OTup sp.outs × Data sp.ks, sp.F x, fun y => (slotOf (resAVs sp.outs y.1 key), (reopen st2 sp.ks as (resStore sp.outs y.1 key (putAll kk (obsOf sp.ks (drop sp.ks y.2)) s2), key + 4)).1)⟩, d, if_pos hc, hd, rfl, fun k hk => ?_⟩
          exact (hq d).2 k (resStore_pw _ _ _ (putAll_pw _ _ (hp k hk)))
        · cases hX
      · cases hX
    · cases hX
  frame key as st R d k hX hd hk hr := by
    have h1 : k ∉ as.flatMap Slot.keys := fun hj => hr (reach_base hj)
    have h2 : k ∉ reach st 1 (as.flatMap Slot.keys) := fun hj => hr (by
      rcases reach1_iff.1 hj with hj | ⟨i, hi, hj⟩
      · exact reach_base hj
      · exact List.mem_append.2 (.inr (reach_base (List.mem_flatMap.2 ⟨i, hi, hj⟩))))
    unfold extBy0 at hX
    split at hX
    · rename_i s1 hs1
      split at hX
      · rename_i x kk hread
        split at hX
        · rename_i hc
          injection hX with hX
          subst hX
          simp only [Bool.and_eq_true, Nat.ble_eq] at hc
          show (reopen st sp.ks as (resStore sp.outs d.1 key (putAll kk (obsOf sp.ks (drop sp.ks d.2)) s1), key + 4)).1.get k = _
          rw [reopen_frame sp.ks as _ k h1 (by simp only; omega)]
          simp only
          rw [get_resStore, if_neg (by omega), putAll_ne _ _ fun hj => h1 (readBy_keys hread k hj), foldArgs_frame sp.ks as _ s1 hs1 k fun hj => h2 (by
            rw [reach1_iff] at hj ⊢
            exact hj.imp id fun ⟨i, hi, hj⟩ => ⟨i, hi, leads_freezes hj⟩)]
          rcases get_freezes (argRows sp.ks as) st k with q | ⟨e, xs, q1, q2, q3⟩
          · exact q
          · exact absurd (argRows_keys q3) h1
        · cases hX
      · cases hX
    · cases hX
theorem nils_pw {j : Nat} : ∀ (ks : List AK) (as : List Slot) (st1 st2 : Store) (n : Nat), st1.get j = st2.get j → (nils ks as st1 n).2.get j = (nils ks as st2 n).2.get j
  | [], as, st1, st2, n, h => by simpa only [nils] using h
  | k :: ks, [], st1, st2, n, h => by cases k <;> simpa only [nils] using h
  | k :: ks, a :: as, st1, st2, n, h => by
    by_cases hg : ∃ e, k = .give e
    · obtain ⟨e, rfl⟩ := hg
      by_cases ha : a = .one .nil
      · subst ha
        simp only [nils]
        exact nils_pw ks as _ _ _ (put_pw h)
      · have e1 : ∀ st, nils (.give e :: ks) (a :: as) st n = (a :: (nils ks as st n).1, (nils ks as st n).2) := fun st => by
          rw [nils]
          exact fun e => ha e
        rw [e1, e1]
        exact nils_pw ks as _ _ _ h
    · have e1 : ∀ st, nils (k :: ks) (a :: as) st n = (a :: (nils ks as st n).1, (nils ks as st n).2) := fun st => by
        cases k <;> first | rfl | exact absurd ⟨_, rfl⟩ hg
      rw [e1, e1]
      exact nils_pw ks as _ _ _ h
theorem nils_fst : ∀ (ks : List AK) (as : List Slot) (st1 st2 : Store) (n : Nat), (nils ks as st1 n).1 = (nils ks as st2 n).1
  | [], as, st1, st2, n => by simp only [nils]
  | k :: ks, [], st1, st2, n => by cases k <;> simp only [nils]
  | k :: ks, a :: as, st1, st2, n => by
    by_cases hg : ∃ e, k = .give e
    · obtain ⟨e, rfl⟩ := hg
      by_cases ha : a = .one .nil
      · subst ha
        simp only [nils]
        rw [nils_fst ks as (st1.put n (.row e [])) (st2.put n (.row e [])) (n + 1)]
      · have e1 : ∀ st, nils (.give e :: ks) (a :: as) st n = (a :: (nils ks as st n).1, (nils ks as st n).2) := fun st => by
          rw [nils]
          exact fun e => ha e
        rw [e1, e1]
        simp only
        rw [nils_fst ks as st1 st2 n]
    · have e1 : ∀ st, nils (k :: ks) (a :: as) st n = (a :: (nils ks as st n).1, (nils ks as st n).2) := fun st => by
        cases k <;> first | rfl | exact absurd ⟨_, rfl⟩ hg
      rw [e1, e1]
      simp only
      rw [nils_fst ks as st1 st2 n]
theorem nils_frame {j : Nat} : ∀ (ks : List AK) (as : List Slot) (st : Store) (n : Nat), ¬ (n ≤ j ∧ j < n + gives ks) → (nils ks as st n).2.get j = st.get j
  | [], as, st, n, h => by simp only [nils]
  | k :: ks, [], st, n, h => by cases k <;> simp only [nils]
  | k :: ks, a :: as, st, n, h => by
    by_cases hg : ∃ e, k = .give e
    · obtain ⟨e, rfl⟩ := hg
      simp only [gives] at h
      by_cases ha : a = .one .nil
      · subst ha
        simp only [nils]
        rw [nils_frame ks as _ _ (by omega), get_put, if_neg (by omega)]
      · have e1 : ∀ st, nils (.give e :: ks) (a :: as) st n = (a :: (nils ks as st n).1, (nils ks as st n).2) := fun st => by
          rw [nils]
          exact fun e => ha e
        rw [e1]
        exact nils_frame ks as _ _ (by omega)
    · have e1 : nils (k :: ks) (a :: as) st n = (a :: (nils ks as st n).1, (nils ks as st n).2) := by
        cases k <;> first | rfl | exact absurd ⟨_, rfl⟩ hg
      have e2 : gives (k :: ks) = gives ks := by
        cases k <;> first | rfl | exact absurd ⟨_, rfl⟩ hg
      rw [e1]
      rw [e2] at h
      exact nils_frame ks as _ _ h
theorem nils_keys {j : Nat} : ∀ (ks : List AK) (as : List Slot) (n : Nat), (∀ st, j ∈ (nils ks as st n).1.flatMap Slot.keys → j ∈ as.flatMap Slot.keys ∨ (n ≤ j ∧ j < n + gives ks ∧ ∃ e, ∀ st, (nils ks as st n).2.get j = some (.row e [])))
  | [], as, n, st, h => by
    simp only [nils] at h
    exact .inl h
  | k :: ks, [], n, st, h => by
    have e : (nils (k :: ks) [] st n).1 = [] := by cases k <;> simp only [nils]
    rw [e] at h
    cases h
  | k :: ks, a :: as, n, st, h => by
    have plain : (∀ st, nils (k :: ks) (a :: as) st n = (a :: (nils ks as st n).1, (nils ks as st n).2)) → gives ks ≤ gives (k :: ks) → j ∈ (a :: as).flatMap Slot.keys ∨ (n ≤ j ∧ j < n + gives (k :: ks) ∧ ∃ e, ∀ st, (nils (k :: ks) (a :: as) st n).2.get j = some (.row e [])) := by
      intro e1 hle
      rw [e1] at h
      rw [List.flatMap_cons] at h ⊢
      rcases List.mem_append.1 h with h | h
      · exact .inl (List.mem_append.2 (.inl h))
      · rcases nils_keys ks as n st h with h | ⟨h1, h2, e, h3⟩
        · exact .inl (List.mem_append.2 (.inr h))
        · exact .inr ⟨h1, by omega, e, fun st => by rw [e1]; exact h3 st⟩
    by_cases hg : ∃ e, k = .give e
    · obtain ⟨e, rfl⟩ := hg
      by_cases ha : a = .one .nil
      · subst ha
        simp only [nils, List.flatMap_cons, List.mem_append] at h
        rcases h with h | h
        · have hj : j = n := by simpa [Slot.keys, AV.keys] using h
          subst hj
          refine .inr ⟨Nat.le_refl _, by simp only [gives]; omega, e, fun st => ?_⟩
          simp only [nils]
          rw [nils_frame ks as _ _ (by omega), get_put, if_pos rfl]
        · rcases nils_keys ks as (n + 1) _ h with h | ⟨h1, h2, e', h3⟩
          · exact .inl (by rw [List.flatMap_cons]; exact List.mem_append.2 (.inr h))
          · refine .inr ⟨by omega, by simp only [gives]; omega, e', fun st => ?_⟩
            simp only [nils]
            exact h3 _
      · exact plain (fun st => by
          rw [nils]
          exact fun e => ha e) (by simp only [gives]; omega)
    · exact plain (fun st => by cases k <;> first | rfl | exact absurd ⟨_, rfl⟩ hg) (by cases k <;> first | exact Nat.le_refl _ | exact absurd ⟨_, rfl⟩ hg)
theorem nils_leads {ks : List AK} {i j : Nat} : ∀ (as : List Slot) (st : Store) (n : Nat), i ∈ leads (nils ks as st n).2 j → i ∈ leads st j := by
  induction ks with
  | nil =>
    intro as st n h
    simpa only [nils] using h
  | cons k ks ih =>
    intro as st n h
    cases as with
    | nil =>
      have e : (nils (k :: ks) [] st n).2 = st := by cases k <;> simp only [nils]
      rwa [e] at h
    | cons a as =>
      by_cases hg : ∃ e, k = .give e
      · obtain ⟨e, rfl⟩ := hg
        by_cases ha : a = .one .nil
        · subst ha
          simp only [nils] at h
          have h := ih as _ _ h
          unfold leads at h ⊢
          rw [get_put] at h
          by_cases hj : j = n
          · rw [if_pos hj] at h
            cases h
          · rw [if_neg hj] at h
            exact h
        · have e1 : ∀ st, nils (.give e :: ks) (a :: as) st n = (a :: (nils ks as st n).1, (nils ks as st n).2) := fun st => by
            rw [nils]
            exact fun e => ha e
          rw [e1] at h
          exact ih as _ _ h
      · have e1 : nils (k :: ks) (a :: as) st n = (a :: (nils ks as st n).1, (nils ks as st n).2) := by
          cases k <;> first | rfl | exact absurd ⟨_, rfl⟩ hg
        rw [e1] at h
        exact ih as _ _ h
theorem reach_more {st st' : Store} {N : Nat → Prop} (hl : ∀ i j, i ∈ leads st' j → i ∈ leads st j) (hN : ∀ j, N j → leads st' j = []) : ∀ (n : Nat) (L L' : List Nat), (∀ j ∈ L', j ∈ L ∨ N j) → ∀ j ∈ reach st' n L', j ∈ reach st n L ∨ N j
  | 0, L, L', h, j, hj => h j hj
  | n + 1, L, L', h, j, hj => by
    simp only [reach, List.mem_append] at hj ⊢
    rcases hj with hj | hj
    · exact (h j hj).imp .inl id
    · refine (reach_more hl hN n (L.flatMap (leads st)) _ (fun i hi => ?_) j hj).imp .inr id
      obtain ⟨m, h1, h2⟩ := List.mem_flatMap.1 hi
      rcases h m h1 with h1 | h1
      · exact .inl (List.mem_flatMap.2 ⟨m, h1, hl _ _ h2⟩)
      · rw [hN m h1] at h2
        cases h2
theorem ext_local (sp : BySpec) : ExtLocal (extBy sp) where
  congr key as st1 st2 R d hX hd hr := by
    unfold extBy at hX ⊢
    cases hg : Nat.ble (gives sp.ks) 4 with
    | false => rw [hg] at hX; cases hX
    | true =>
      rw [hg] at hX
      simp only [cond_true] at hX ⊢
      have hnew : ∀ st, ∀ j ∈ reach (nils sp.ks as st (key + 12)).2 3 ((nils sp.ks as st (key + 12)).1.flatMap Slot.keys), j ∈ reach st 3 (as.flatMap Slot.keys) ∨ ∃ e, ∀ st, (nils sp.ks as st (key + 12)).2.get j = some (.row e []) := fun st =>
        reach_more (fun i j => nils_leads as st _) (fun j ⟨e, he⟩ => by unfold leads; rw [he]) 3 _ _ fun j hj => (nils_keys sp.ks as (key + 12) st hj).imp id fun ⟨_, _, e, he⟩ => ⟨e, he⟩
      obtain ⟨R', d', h1, h2, h3, h4⟩ := (ext_local0 sp).congr key _ _ (nils sp.ks as st2 (key + 12)).2 R d hX hd fun j hj => by
        rcases hnew st1 j hj with hj | ⟨e, he⟩
        · exact nils_pw _ _ _ _ _ (hr j hj)
        · rw [he, he]
      exact ⟨R', d', by rw [nils_fst sp.ks as st2 st1]; exact h1, h2, h3, fun k hk => h4 k (nils_pw _ _ _ _ _ hk)⟩
  frame key as st R d k hX hd hk hr := by
    unfold extBy at hX
    cases hg : Nat.ble (gives sp.ks) 4 with
    | false => rw [hg] at hX; cases hX
    | true =>
      rw [hg] at hX
      have hg := Nat.le_of_ble_eq_true hg
      simp only [cond_true] at hX
      rw [(ext_local0 sp).frame key _ _ R d k hX hd hk fun hj => ?_]
      · exact nils_frame _ _ _ _ (by omega)
      · rcases reach_more (N := fun j => key + 12 ≤ j ∧ j < key + 12 + gives sp.ks ∧ ∃ e, ∀ st, (nils sp.ks as st (key + 12)).2.get j = some (.row e [])) (fun i j => nils_leads as st _) (fun j ⟨_, _, e, he⟩ => by unfold leads; rw [he]) 3 _ _ (fun j hj => nils_keys sp.ks as (key + 12) st hj) k hj with hj | ⟨h1, h2, _⟩
        · exact hr hj
        · omega
end Go.Ev
end
section
set_option linter.unusedVariables false
namespace Go.Ev
noncomputable def extNew (d : DT) (F : Unit → Option ((d.den × Unit) × Unit)) (key : Nat) (as : List Slot) (st : Store) : Option ExtR :=
  match as with
  | [] => bif Nat.ble d.parts 12 then some ⟨(d.den × Unit) × Unit, F (), fun y => (.one (.ref key 0 0 0), (openAtD d (st.put key (.deep (.box d) y.1.1)) key (key + 4)).1)⟩ else none
  | _ => none
end Go.Ev
end
section
set_option linter.unusedVariables false
namespace Go.Ev
open Go.RowKit
end Go.Ev
end
