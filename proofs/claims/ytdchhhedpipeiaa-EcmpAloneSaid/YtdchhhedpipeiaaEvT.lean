/- Code, and functions: the evaluation is sound. -/
import Derived.Test.YtdchhhedpipeiaaEvS
import Derived.LoopN
import Derived.Scope
set_option linter.unusedVariables false
set_option linter.unusedSimpArgs false
namespace Go.Ev
open Go.RowKit

variable {P : Program} {E : Env} {w0 : Base} {S0 : Nat → Prop} {R : Type}

def Ex.to : Ex → Exit
  | .normal => .normal
  | .exit id => .exit id
  | .ret => .ret

/-- What comes behind is right at r. -/
def KOk (w0 : Base) (S0 : Nat → Prop) (K : Ex → St → Option R) (r : R) (Q : Exit → Act → World → Prop) : Prop :=
  ∀ e s a w hv, Rel w0 S0 hv s a w → (∀ j, s.next ≤ j → hv j = none) → K e s = some r → Q e.to a w

theorem KOk.then {K : Ex → St → Option R} {r : R} {Q : Exit → Act → World → Prop} (hK : KOk w0 S0 K r Q) {F : St → Option R} {N : Act → World → Prop} (hF : ∀ s a w hv, Rel w0 S0 hv s a w → (∀ j, s.next ≤ j → hv j = none) → F s = some r → N a w) :
    KOk w0 S0 (fun e s' => match e with | .normal => F s' | e => K e s') r (Exit.then N Q) := by
  intro e s a w hv h hf he
  cases e with
  | normal => exact hF s a w hv h hf he
  | exit id => exact hK (.exit id) s a w hv h hf he
  | ret => exact hK .ret s a w hv h hf he

theorem evalC_sound (ok : EnvOk w0.tr P E) (hmix : P.follows .mixedOrders = true) (fuel : Nat) : ∀ (c : Code) (K : Ex → St → Option R) (r : R) (Q : Exit → Act → World → Prop), KOk w0 S0 K r Q →
    ∀ (s : St) (a : Act) (w : World) (hv : Hv), Rel w0 S0 hv s a w → (∀ j, s.next ≤ j → hv j = none) → evalC E fuel c K s = some r → c.wp P Q a w := by
  intro c
  induction c with
  | skip => intro K r Q hK s a w hv h hf he; exact wp_skip (hK .normal s a w hv h hf he)
  | label l => intro K r Q hK s a w hv h hf he; exact wp_label (hK .normal s a w hv h hf he)
  | exit id => intro K r Q hK s a w hv h hf he; exact wp_exit (hK (.exit id) s a w hv h hf he)
  | ret => intro K r Q hK s a w hv h hf he; exact wp_ret (hK .ret s a w hv h hf he)
  | region id ops draw =>
    intro K r Q hK s a w hv h hf he
    simp only [evalC] at he
    have hfin : ∀ (s' : St) (hv' : Hv) (a' : Act) (w' : World), Rel w0 S0 hv' s' a' w' → (∀ j, s.next + 4 * ops.size ≤ j → hv' j = none) → K .normal { tmps := s'.tmps, st := s'.st, next := s.next + 4 * ops.size } = some r → Q .normal a' w' := fun s' hv' a' w' h' hf' hk =>
      hK .normal { tmps := s'.tmps, st := s'.st, next := s.next + 4 * ops.size } a' w' hv' (h'.ext rfl fun _ => rfl) hf' hk
    cases draw with
    | false =>
      simp only [Bool.false_eq_true, if_false] at he
      refine wp_region_list (runOps_sound ok ops.toList s.next s a w hv h hf he fun hv' s' a' w' h1 h2 _ h4 => ?_)
      exact hfin s' hv' a' w' h1 (fun j hj => h2 j (by simpa using hj)) h4
    | true =>
      simp only [if_true] at he
      obtain ⟨h1, h2⟩ := text_of_run (base := s.next) (s0 := s) ops.toList 0 rfl he
      have T : TextOk E ops s.next s := ⟨fun j o ho => (h1 j o (by omega) ho).1, fun j o ho => (h1 j o (by omega) ho).2, fun f X hX => (ok.ext f X hX).2.2⟩
      refine draw_sound ok hmix T h hf fun hv' a' w' g1 g2 => ?_
      rw [show max 0 ops.size = ops.size by omega] at h2
      exact hfin _ hv' a' w' g1 g2 h2
  | seq x y ihx ihy =>
    intro K r Q hK s a w hv h hf he
    simp only [evalC] at he
    refine wp_seq (ihx _ r _ (hK.then fun s' a' w' hv' h' hf' he' => ?_) s a w hv h hf he)
    obtain ⟨hv2, h2, hf2⟩ := canon_sound (E := E) h' hf' y
    exact ihy K r Q hK _ a' w' hv2 h2 hf2 he'
  | cond c x y ihx ihy =>
    intro K r Q hK s a w hv h hf he
    simp only [evalC] at he
    split at he
    · rename_i b hb
      have hc := bool_rep h.tmps hb
      cases b with
      | true => exact wp_cond_true hc (ihx K r Q hK s a w hv h hf he)
      | false => exact wp_cond_false hc (ihy K r Q hK s a w hv h hf he)
    · cases he
  | block id c ih =>
    intro K r Q hK s a w hv h hf he
    simp only [evalC] at he
    refine wp_block (ih _ r _ (fun e s' a' w' hv' h' hf' he' => ?_) s a w hv h hf he)
    cases e with
    | normal => exact hK .normal s' a' w' hv' h' hf' he'
    | ret => exact hK .ret s' a' w' hv' h' hf' he'
    | exit j =>
      simp only at he'
      show Exit.inBlock id Q (.exit j) a' w'
      simp only [Exit.inBlock]
      split at he'
      · rename_i hj
        rw [if_pos hj]
        exact hK .normal s' a' w' hv' h' hf' he'
      · rename_i hj
        rw [if_neg hj]
        exact hK (.exit j) s' a' w' hv' h' hf' he'
  | loop c ih =>
    intro K r Q hK s a w hv h hf he
    simp only [evalC] at he
    obtain ⟨hv2, h2, hf2⟩ := canon_sound (E := E) h hf c
    refine wp_loop_rounds fuel ?_
    have key : ∀ (n : Nat) (s : St) (a : Act) (w : World) (hv : Hv), Rel w0 S0 hv s a w → (∀ j, s.next ≤ j → hv j = none) → loopN (canon E c) (fun K' s' => evalC E fuel c K' s') n K s = some r → Code.rounds P c Q n a w := by
      intro n
      induction n with
      | zero => intro s a w hv h hf he; cases he
      | succ n ihn =>
        intro s a w hv h hf he
        simp only [loopN] at he
        rw [rounds_succ]
        refine ih _ r _ (hK.then fun s' a' w' hv' h' hf' he' => ?_) s a w hv h hf he
        obtain ⟨hv3, h3, hf3⟩ := canon_sound (E := E) h' hf' c
        exact ihn _ a' w' hv3 h3 hf3 he'
    exact key fuel _ a w hv2 h2 hf2 he
  | scope c ih =>
    intro K r Q hK s a w hv h hf he
    simp only [evalC] at he
    refine wp_scope_straight (ih K r _ (fun e s' a' w' hv' h' hf' he' => ?_) s a w hv h hf he)
    have := hK e s' a' w' hv' h' hf' he'
    cases e <;> exact this
  | goto l => intro K r Q hK s a w hv h hf he; simp [evalC] at he
  | refuse why => intro K r Q hK s a w hv h hf he; simp [evalC] at he
  | rangeFunc f ps x y ihx ihy => intro K r Q hK s a w hv h hf he; simp [evalC] at he

/-! ### Results -/
def resM (a : Act) : ResultVar → Sem Value
  | .tmp t => pure (a.tmps.getD t undef)
  | .cell c t => do loadVar t (← asAddr (a.tmps.getD c undef))

theorem resSlots_run (ok : EnvOk w0.tr P E) {hv : Hv} {s : St} {a : Act} {w : World} (h : Rel w0 S0 hv s a w) : ∀ (rs : List ResultVar) (l : List Slot), resSlots E s rs = some l →
    ∃ vs : List Value, (rs.mapM (resM a)).run P w = .ok vs w ∧ All2 (SlotRep w (All S0 hv s.st) hv) l vs
  | [], l, he => by
    simp only [resSlots, Option.some.injEq] at he
    subst he
    exact ⟨[], rfl, trivial⟩
  | .tmp t :: r, l, he => by
    simp only [resSlots] at he
    split at he
    · rename_i sl hsl
      split at he
      · rename_i m hm
        injection he with he
        subst he
        obtain ⟨vs, h1, h2⟩ := resSlots_run ok h r m hm
        obtain ⟨v, g1, g2⟩ := h.tmps.get _ _ hsl
        have g1' : a.tmps[t]? = some v := by simpa using g1
        refine ⟨v :: vs, ?_, g2, h2⟩
        have hr : (resM a (.tmp t)).run P w = .ok v w := by simp [resM, Array.getD_eq_getD_getElem?, g1']
        rw [List.mapM_cons]
        simp only [Sem.run_bind, hr, Sem.run_pure, Result.andThen_ok, h1]
      · cases he
    · cases he
  | .cell c t :: r, l, he => by
    simp only [resSlots] at he
    split at he
    · rename_i av hav
      split at he
      · rename_i sl hsl
        split at he
        · rename_i m hm
          injection he with he
          subst he
          obtain ⟨vs, h1, h2⟩ := resSlots_run ok h r m hm
          obtain ⟨v, g1, g2⟩ := h.tmps.get _ _ hav
          have g1' : a.tmps[c]? = some v := by simpa using g1
          obtain ⟨b, off, u, rfl, g3, g4⟩ := loadE_loads (P := P) ok h g2 hsl
          refine ⟨u :: vs, ?_, g4, h2⟩
          have hr : (resM a (.cell c t)).run P w = .ok u w := by simp [resM, Array.getD_eq_getD_getElem?, g1', asAddr, g3]
          rw [List.mapM_cons]
          simp only [Sem.run_bind, hr, Sem.run_pure, Result.andThen_ok, h1]
        · cases he
      · cases he
    · cases he

/-- The rows that a result makes, in order. -/
def rowsOf : (outs : List OT) → OTup outs → List Ob
  | [], _ => []
  | .pure _ :: r, x => rowsOf r x.2
  | .fresh t :: r, x => .row t x.1 :: rowsOf r x.2
theorem rowsOf_length : ∀ (outs : List OT) (r : OTup outs), (rowsOf outs r).length = freshes outs
  | [], _ => rfl
  | .pure _ :: r, x => rowsOf_length r x.2
  | .fresh _ :: r, x => by simp [rowsOf, freshes, rowsOf_length r x.2]
theorem get_rowsOf : ∀ (outs : List OT) (r : OTup outs) (j : Nat), (resStore outs r 0 []).get j = (rowsOf outs r)[j]?
  | [], _, j => by simp [resStore, rowsOf, Store.get]
  | .pure t :: r, x, j => get_rowsOf r x.2 j
  | .fresh t :: r, x, j => by
    simp only [resStore, rowsOf]
    rw [get_resStore]
    cases j with
    | zero => rw [if_neg (by omega), get_put]; simp
    | succ j =>
      rw [List.getElem?_cons_succ, ← get_rowsOf r x.2 j]
      by_cases h : j < freshes r
      · rw [if_pos (by omega), show j + 1 - (0 + 1) = j by omega]
      · rw [if_neg (by omega), get_put, if_neg (by omega), get_rowsOf]
        rw [List.getElem?_eq_none (by rw [rowsOf_length]; omega)]
        rfl

theorem freshAs_rep {hv : Hv} {st : Store} {w : World} (h : StRel w S0 hv st) {e : Ty} {sl : Slot} {v : Value} (hr : SlotRep w (All S0 hv st) hv sl v) {xs : List e.den} (hx : freshAs st e sl = some xs) :
    isCell v ∧ ObRep w (All S0 hv st) hv v (.row e xs) ∧ ∀ b, blk (.row e xs) v = some b → ∃ k ob u, freshKey sl = some k ∧ st.get k = some ob ∧ hv k = some u ∧ blk ob u = some b := by
  unfold freshAs at hx
  split at hx
  · rename_i k
    have hg := wrow_get hx
    obtain ⟨u, h1, h2⟩ := h.objs _ _ hg
    obtain rfl : v = u := Option.some.inj (hr.1.symm.trans h1)
    exact ⟨hr.2, h2, fun b hb => ⟨k, _, _, rfl, hg, h1, hb⟩⟩
  · rename_i k sz lo n
    split at hx
    · rename_i hsz
      subst hsz
      split at hx
      · rename_i ys hys
        injection hx with hx
        subst hx
        have hg := wrow_get hys
        obtain ⟨A, len, cap, A', cap', hk, q1, q2, q3, q4, q5, rfl⟩ := hr
        obtain ⟨vk, hk1, hob⟩ := h.objs _ _ hg
        rw [hk1] at hk
        injection hk with hk
        subst hk
        have hlen : len = ys.length := by
          rcases hob with ⟨B, h', rfl⟩ | ⟨b, off, cap1, vs, ty, h', _⟩
          · injection h' with _ h' _
          · injection h' with _ h' _
        subst hlen
        have hzl : ((ys.drop lo).take n).length = n := by simp; omega
        refine ⟨trivial, ?_, fun b hb => ?_⟩
        · rcases Nat.eq_zero_or_pos cap' with h0 | h0
          · refine .inl ⟨A', ?_, ?_⟩
            · rw [h0, show n = 0 by omega]
            · exact List.eq_nil_of_length_eq_zero (by rw [hzl]; omega)
          · rcases hob with ⟨B, h', rfl⟩ | ⟨b', off, cap1, vs, ty, h', g1, g2, g3, g4, g5⟩
            · injection h' with _ _ h'
              omega
            · injection h' with hA _ hcc
              subst hA hcc
              have := q5 h0 b' off rfl
              subst this
              refine .inr ⟨b', off + lo * e.size, cap', vs, ty, by rw [hzl], h0, by rw [hzl]; omega, g3, ?_, ?_⟩
              · have : lo * e.size + cap' * e.size = cap * e.size := by rw [← Nat.add_mul]; congr 1; omega
                omega
              · intro j z hz
                have hj : j < n := by
                  have := (List.getElem?_eq_some_iff.1 hz).1
                  omega
                rw [List.getElem?_take, if_pos hj, List.getElem?_drop] at hz
                obtain ⟨es, p1, p2⟩ := g5 _ z hz
                refine ⟨es, p1, fun c d hd => ?_⟩
                have := p2 c d hd
                rw [Nat.add_mul] at this
                rw [← this]
                congr 1
                omega
        · have hc : 0 < cap' := by
            rcases Nat.eq_zero_or_pos cap' with h0 | h0
            · subst h0; cases A' <;> simp [blk] at hb
            · exact h0
          rcases hob with ⟨B, h', rfl⟩ | ⟨b', off, cap1, vs, ty, h', g1, _⟩
          · injection h' with _ _ h'
            omega
          · injection h' with hA _ hcc
            subst hA hcc
            have := q5 hc b' off rfl
            subst this
            simp only [blk, hc, if_true, Option.some.injEq] at hb
            subst hb
            exact ⟨k, _, _, rfl, hg, hk1, by simp [blk, g1]⟩
      · cases hx
    · cases hx
  · injection hx with hx
    subst hx
    have hr : v = .slice none 0 0 := hr
    subst hr
    exact ⟨trivial, .inl ⟨none, rfl, rfl⟩, fun b hb => by simp [blk] at hb⟩
  · cases hx

/-- What the results' slots mean. -/
theorem outs_rep {hv : Hv} {st : Store} {w : World} (h : StRel w S0 hv st) : ∀ (outs : List OT) (l : List Slot) (vs : List Value) (r : OTup outs), All2 (SlotRep w (All S0 hv st) hv) l vs → outsAs st outs l = some r →
    ∃ fv : List (Value × Option Nat), All2 (fun ob (p : Value × Option Nat) => isCell p.1 ∧ ObRep w (All S0 hv st) hv p.1 ob ∧ ∀ b, blk ob p.1 = some b → ∃ k ob' u, p.2 = some k ∧ st.get k = some ob' ∧ hv k = some u ∧ blk ob' u = some b) (rowsOf outs r) fv ∧
      fv.filterMap (fun p : Value × Option Nat => p.2) = freshKeys outs l ∧
      ∀ (T : Nat → Prop) (hv2 : Hv) (d : Nat), (∀ b, T b → All S0 hv st b) → Free hv st (pureRows outs l) T → (∀ j p, fv[j]? = some p → hv2 (d + j) = some p.1) → All2 (AVRep w T hv2) (resAVs outs r d) vs
  | [], [], [], r, _, he => ⟨[], trivial, rfl, fun _ _ _ _ _ _ => trivial⟩
  | [], [], _ :: _, _, h, _ => h.elim
  | .pure t :: outs, sl :: l, v :: vs, r, hr, he => by
    simp only [outsAs] at he
    split at he
    · rename_i x hx
      split at he
      · rename_i y hy
        injection he with he
        subst he
        obtain ⟨fv, h1, h2, h3⟩ := outs_rep h outs l vs y hr.2 hy
        refine ⟨fv, h1, h2, fun T hv2 d hT hf hh => ⟨?_, h3 T hv2 d hT (hf.sub fun k hk => by simp [pureRows, hk]) hh⟩⟩
        exact slot_rep h hr.1 hx hT (hf.sub fun k hk => by simp [pureRows, hk])
      · cases he
    · cases he
  | .fresh t :: outs, sl :: l, v :: vs, r, hr, he => by
    simp only [outsAs] at he
    split at he
    · rename_i x hx
      split at he
      · rename_i y hy
        injection he with he
        subst he
        obtain ⟨fv, h1, h2, h3⟩ := outs_rep h outs l vs y hr.2 hy
        obtain ⟨g1, g2, g3⟩ := freshAs_rep h hr.1 hx
        refine ⟨(v, freshKey sl) :: fv, ⟨⟨g1, g2, g3⟩, h1⟩, ?_, fun T hv2 d hT hf hh => ⟨⟨?_, g1⟩, h3 T hv2 (d + 1) hT (hf.sub fun k hk => by simpa [pureRows] using hk) fun j p hj => ?_⟩⟩
        · simp only [freshKeys, ← h2]
          cases hk : freshKey sl with
          | none => simp [List.filterMap_cons, hk]
          | some k => simp [List.filterMap_cons, hk]
        · have := hh 0 (v, freshKey sl) rfl
          simpa using this
        · have := hh (j + 1) p (by simpa using hj)
          rw [show d + 1 + j = d + (j + 1) by omega]
          exact this
      · cases he
    · cases he
  | .pure _ :: _, _ :: _, [], _, h, _ => h.elim
  | .fresh _ :: _, _ :: _, [], _, h, _ => h.elim
  | _ :: _, [], _, _, _, he => by simp [outsAs] at he
  | [], _ :: _, _, _, _, he => by simp [outsAs] at he

theorem nodupB_sound : ∀ {l : List Nat}, nodupB l = true → l.Nodup
  | [], _ => List.nodup_nil
  | k :: r, h => by
    simp only [nodupB, Bool.and_eq_true, Bool.not_eq_true', List.contains_eq_mem, decide_eq_false_iff_not] at h
    exact List.nodup_cons.2 ⟨h.1, nodupB_sound h.2⟩

theorem filterMap_inj : ∀ {l : List (Value × Option Nat)} {i j : Nat} {p q : Value × Option Nat} {k : Nat}, (l.filterMap (fun p : Value × Option Nat => p.2)).Nodup → l[i]? = some p → l[j]? = some q → p.2 = some k → q.2 = some k → i = j
  | [], i, j, p, q, k, _, h, _, _, _ => by simp at h
  | x :: l, 0, 0, p, q, k, _, _, _, _, _ => rfl
  | x :: l, 0, j + 1, p, q, k, hn, hi, hj, hp, hq => by
    simp only [List.getElem?_cons_zero, Option.some.injEq] at hi
    subst hi
    simp only [List.getElem?_cons_succ] at hj
    simp only [List.filterMap_cons, hp] at hn
    exact absurd (List.mem_filterMap.2 ⟨q, List.mem_of_getElem? hj, hq⟩) (List.nodup_cons.1 hn).1
  | x :: l, i + 1, 0, p, q, k, hn, hi, hj, hp, hq => by
    simp only [List.getElem?_cons_zero, Option.some.injEq] at hj
    subst hj
    simp only [List.getElem?_cons_succ] at hi
    simp only [List.filterMap_cons, hq] at hn
    exact absurd (List.mem_filterMap.2 ⟨p, List.mem_of_getElem? hi, hp⟩) (List.nodup_cons.1 hn).1
  | x :: l, i + 1, j + 1, p, q, k, hn, hi, hj, hp, hq => by
    simp only [List.getElem?_cons_succ] at hi hj
    have hn' : (l.filterMap (fun p : Value × Option Nat => p.2)).Nodup := by
      simp only [List.filterMap_cons] at hn
      split at hn
      · exact hn
      · exact (List.nodup_cons.1 hn).2
    rw [filterMap_inj hn' hi hj hp hq]

theorem finish_sound (ok : EnvOk w0.tr P E) {hv : Hv} {s : St} {a : Act} {w : World} (h : Rel w0 S0 hv s a w) {outs : List OT} {fn : Func} {r : OTup outs} (he : finish E outs fn.results.toList s = some r) :
    ∃ v, (results fn a.tmps).run P w = .ok v w ∧ ResRep w0.n w S0 outs r v := by
  unfold finish at he
  split at he
  · rename_i l hl
    split at he
    · rename_i hc
      simp only [Bool.and_eq_true] at hc
      obtain ⟨c1, c2⟩ := hc
      have hnd := nodupB_sound c1
      obtain ⟨vs, h1, h2⟩ := resSlots_run (P := P) ok h _ _ hl
      obtain ⟨fv, g1, g2, g3⟩ := outs_rep h.st outs l vs r h2 he
      let hvR : Hv := fun j => (fv[j]?).map (·.1)
      have hflen := g1.length
      have hown : ∀ b, Own hvR (resStore outs r 0 []) b → ∃ (j : Nat) (p : Value × Option Nat) (k : Nat) (ob : Ob) (u : Value), fv[j]? = some p ∧ p.2 = some k ∧ s.st.get k = some ob ∧ hv k = some u ∧ blk ob u = some b := by
        rintro b ⟨j, ob, v, q1, q2, q3⟩
        rw [get_rowsOf] at q1
        obtain ⟨p, p1, p2⟩ := g1.get j ob q1
        simp only [hvR, p1, Option.map_some, Option.some.injEq] at q2
        subst q2
        obtain ⟨k, ob', u, q4, q5, q6, q7⟩ := p2.2.2 b q3
        exact ⟨j, p, k, ob', u, p1, q4, q5, q6, q7⟩
      have hsub : ∀ b, All S0 hvR (resStore outs r 0 []) b → All S0 hv s.st b := fun b hb => hb.imp id fun hb => by
        obtain ⟨j, p, k, ob, u, _, _, q5, q6, q7⟩ := hown b hb
        exact ⟨k, ob, u, q5, q6, q7⟩
      have hs : StepOk w (All S0 hv s.st) w (All S0 hvR (resStore outs r 0 [])) := (StepOk.refl _ _).sub hsub
      have hfree : Free hv s.st (pureRows outs l) (All S0 hvR (resStore outs r 0 [])) := by
        intro k hk e xs v b q1 q2 q3 hb
        rcases hb with hb | hb
        · exact h.st.out b ⟨k, _, _, q1, q2, q3⟩ hb
        · obtain ⟨j, p, k', ob, u, p1, p2, q5, q6, q7⟩ := hown b hb
          have hkk := h.st.inj _ _ _ _ _ _ _ q1 q2 q3 q5 q6 q7
          subst hkk
          simp only [disjoint, List.all_eq_true, Bool.not_eq_true', List.contains_eq_mem, decide_eq_false_iff_not] at c2
          exact c2 k (by rw [← g2]; exact List.mem_filterMap.2 ⟨p, List.mem_of_getElem? p1, p2⟩) hk
      refine ⟨retOf vs, ?_, hvR, vs, ⟨fun j ob hj => ?_, fun j ob v j' ob' v' b q1 q2 q3 q4 q5 q6 => ?_, fun b hb hb0 => ?_⟩, g3 _ hvR 0 hsub hfree fun j p hj => by simp [hvR, hj], rfl, fun b hb => ?_⟩
      · have hres : results fn a.tmps = (do let vs ← fn.results.mapM (resM a); pure (if h : vs.size = 1 then vs[0] else .tuple vs)) := rfl
        rw [hres, Sem.run_bind, Array.mapM_eq_mapM_toList, Sem.run_map, h1]
        simp only [Result.andThen_ok, Sem.run_pure]
        congr 1
        match vs with
        | [] => rfl
        | [v] => rfl
        | v :: u :: m => rfl
      · rw [get_rowsOf] at hj
        obtain ⟨p, p1, p2⟩ := g1.get j ob hj
        refine ⟨p.1, by simp [hvR, p1], ?_⟩
        have hrow : ∃ t xs, ob = .row t xs := by
          have : ∀ (outs : List OT) (r : OTup outs), ∀ o ∈ rowsOf outs r, ∃ t xs, o = .row t xs := by
            intro outs
            induction outs with
            | nil => intro r o ho; cases ho
            | cons t outs ih =>
              intro r o ho
              cases t with
              | pure t => exact ih r.2 o ho
              | fresh t =>
                rcases List.mem_cons.1 ho with rfl | ho
                · exact ⟨_, _, rfl⟩
                · exact ih r.2 o ho
          exact this outs r ob (List.mem_of_getElem? hj)
        obtain ⟨t, xs, rfl⟩ := hrow
        rcases p2.2.1 with q | ⟨b, off, cap, cells, ty, e1, q1, q2, q3, q4, q5⟩
        · exact .inl q
        · refine .inr ⟨b, off, cap, cells, ty, e1, q1, q2, q3, q4, fun i x hx => ?_⟩
          obtain ⟨es, z1, z2⟩ := q5 i x hx
          exact ⟨es, z1.step hs, z2⟩
      · rw [get_rowsOf] at q1 q4
        obtain ⟨p, p1, p2⟩ := g1.get j ob q1
        obtain ⟨p', p1', p2'⟩ := g1.get j' ob' q4
        simp only [hvR, p1, Option.map_some, Option.some.injEq] at q2
        simp only [hvR, p1', Option.map_some, Option.some.injEq] at q5
        subst q2 q5
        obtain ⟨k, ob1, u1, z1, z2, z3, z4⟩ := p2.2.2 b q3
        obtain ⟨k', ob2, u2, y1, y2, y3, y4⟩ := p2'.2.2 b q6
        have hkk := h.st.inj _ _ _ _ _ _ _ z2 z3 z4 y2 y3 y4
        subst hkk
        exact filterMap_inj (by rw [g2]; exact hnd) p1 p1' z1 y1
      · obtain ⟨j, p, k, ob, u, _, _, q5, q6, q7⟩ := hown b hb
        exact h.st.out b ⟨k, ob, u, q5, q6, q7⟩ hb0
      · obtain ⟨j, p, k, ob, u, _, _, q5, q6, q7⟩ := hown b hb
        exact h.base b ⟨k, ob, u, q5, q6, q7⟩
    · cases he
  · cases he

/-! ### Functions -/
theorem args_slots {S : Nat → Prop} {w : World} {hv : Hv} : ∀ (ts : List Ty) (x : Tup ts) (vs : List Value), ArgsRep w S ts x vs → All2 (SlotRep w S hv) (argSlots ts x) vs
  | [], _, [], _ => trivial
  | [], _, _ :: _, h => h.elim
  | t :: ts, x, v :: vs, h => ⟨h.1, args_slots ts x.2 vs h.2⟩
  | _ :: _, _, [], h => h.elim
theorem All2.replicate {α β : Type} {R' : α → β → Prop} {a : α} {b : β} (h : R' a b) : ∀ n, All2 R' (List.replicate n a) (List.replicate n b)
  | 0 => trivial
  | n + 1 => by simp only [List.replicate_succ]; exact ⟨h, All2.replicate h n⟩

theorem argSlots_length : ∀ (ts : List Ty) (x : Tup ts), (argSlots ts x).length = ts.length
  | [], _ => rfl
  | t :: ts, x => by simp [argSlots, argSlots_length ts x.2]

/-- A function comes to what the evaluation of its body says. -/
theorem pure_of_eval {tr : Bool} (ok : EnvOk tr P E) (hmix : P.follows .mixedOrders = true) {f : FuncId} {fn : Func} (hf : P.funcs[f]? = some fn) {c : Code} (hb : fn.body = some c) {sp : Spec}
    (he : ∀ x r, sp.F x = some r → ∃ fuel, evalBody E fuel fn c sp.ins sp.outs x = some r) : Pure tr P f sp := by
  intro x r hx w S vals hS hargs
  obtain ⟨fuel, hev⟩ := he x r hx
  have hsl := args_slots (hv := fun _ => none) sp.ins x vals hargs
  have hlen : vals.length = sp.ins.length := by rw [← argSlots_length sp.ins x]; exact hsl.length.symm
  refine calls_of_wp hf hb ?_
  have hown : ∀ b, ¬ Own (fun _ => none) ([] : Store) b := by
    rintro b ⟨k, o, v, h1, _⟩
    cases h1
  have hall : All S (fun _ => none) ([] : Store) = S := funext fun b => propext ⟨fun h => h.resolve_right (hown b), .inl⟩
  have hrel : Rel (Base.of tr w S) S (fun _ => none) (startSt sp.ins x fn.ntmps) { tmps := vals.toArray ++ Array.replicate (fn.ntmps - vals.toArray.size) undef, defers := [] } w := by
    refine ⟨⟨(fun k o hk => by cases hk), (fun k o v k' o' v' b hk => by cases hk), fun b hb => absurd hb (hown b)⟩, ?_, fun b hb => absurd hb (hown b), hS, Below.refl _ _ _, rfl, (fun k sl hk => by cases hk), (by show StepOk w S w (All S (fun _ => none) []); rw [hall]; exact StepOk.refl _ _), fun _ _ => rfl⟩
    show All2 (SlotRep w (All S (fun _ => none) []) fun _ => none) _ _
    rw [hall]
    simp only [startSt, Array.toList_append, Array.toList_replicate, List.size_toArray, hlen]
    exact hsl.append (All2.replicate (show SlotRep w S _ (.one .dead) undef from trivial) _)
  refine evalC_sound (w0 := Base.of tr w S) ok hmix fuel c _ r _ ?_ _ _ w _ hrel (fun _ _ => rfl) hev
  intro e s a w' hv h hf' hk
  cases e with
  | exit id => cases hk
  | normal =>
    obtain ⟨v, h1, h2⟩ := finish_sound (w0 := Base.of tr w S) ok h hk
    exact ⟨h.dfr, v, h1, v, rfl, h2, h.keep⟩
  | ret =>
    obtain ⟨v, h1, h2⟩ := finish_sound (w0 := Base.of tr w S) ok h hk
    exact ⟨h.dfr, v, h1, v, rfl, h2, h.keep⟩
end Go.Ev
