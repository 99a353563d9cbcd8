/- Rows of operations in the order of the text. -/
import Derived.Test.YtdchhhedpipeiaaEvL
set_option linter.unusedVariables false
set_option linter.unusedSimpArgs false
namespace Go.Ev
open Go.RowKit

variable {P : Program} {E : Env} {w0 : Base} {w : World} {S0 : Nat → Prop} {hv : Hv} {s : St} {a : Act} {key : Nat} {o : Oper} {R : Type}

theorem kind_pick {c x y : Operand} (h : kindOf o = .pick c x y) : o.op = .pick c x y := by
  unfold kindOf at h
  split at h
  · rename_i ho
    simp only [Kind.pick.injEq] at h
    obtain ⟨rfl, rfl, rfl⟩ := h
    exact ho
  · split at h <;> cases h
  · cases h
theorem kind_call {f : FuncId} {args : List Operand} (h : kindOf o = .call f args) : ∃ c : Call, o.op = .call c ∧ c.callee = .value (.func f) ∧ c.args.toList = args := by
  unfold kindOf at h
  split at h
  · cases h
  · rename_i c ho
    split at h
    · rename_i g hc
      simp only [Kind.call.injEq] at h
      obtain ⟨rfl, rfl⟩ := h
      exact ⟨c, ho, hc, rfl⟩
    · cases h
  · cases h

theorem capsSlots_rep (h : StRel w S0 hv s.st) : ∀ {caps : List Nat} {l : List Slot} {vs : List Value}, capsSlots s.st caps = some l → All2 (fun k v => hv k = some v) caps vs → All2 (SlotRep w (All S0 hv s.st) hv) l vs
  | [], l, vs, hl, hv' => by
    simp only [capsSlots, Option.some.injEq] at hl
    subst hl
    cases vs <;> first | trivial | exact hv'.elim
  | k :: r, l, [], hl, hv' => hv'.elim
  | k :: r, l, v :: vs, hl, hv' => by
    simp only [capsSlots] at hl
    split at hl
    · rename_i cs hg
      split at hl
      · rename_i m hm
        injection hl with hl
        subst hl
        refine ⟨?_, capsSlots_rep h hm hv'.2⟩
        obtain ⟨u, h1, b, us, ty, rfl, _⟩ := h.objs _ _ hg
        have : hv k = some v := hv'.1
        rw [h1] at this
        injection this with this
        subst this
        exact .inl ⟨b, h1, rfl⟩
      · cases hl
    · cases hl

/-- A call that has a contract over slots. -/
theorem ext_sound (ok : EnvOk w0.tr P E) (h : Rel w0 S0 hv s a w) (hk : ∀ j, j < 4 → hv (key + j) = none) {X : Nat → List Slot → Store → Option ExtR} {as : List Slot} (hx : extOf E o s = some (X, as))
    {D : Type} {d : D} {out : D → Slot × Store} (hX : X key as s.st = some ⟨D, some d, out⟩) {K : Act → World → Prop} {Q : Exit → Act → World → Prop}
    (hK : ∀ hv' val w', Post w0 S0 hv s.st w key (out d).1 (out d).2 hv' val w' → K (a.put o.dst val) w') : o.wp P a w K Q := by
  unfold extOf at hx
  split at hx
  · rename_i c ho
    split at hx
    · rename_i x hc
      split at hx
      · rename_i f caps hxf
        split at hx
        · rename_i X' hX'
          split at hx
          · rename_i as' has
            split at hx
            · rename_i l hl
              injection hx with hx
              injection hx with h1 h2
              subst h1 h2
              obtain ⟨hent, hext, _⟩ := ok.ext _ _ hX'
              have hev := evs_rep h.tmps has
              obtain ⟨cv, hcv, hfv⟩ := ev_rep h.tmps hxf
              have hcap := capsSlots_rep h.st hl hcv
              have hrun : (execOp a.eval o).run P w = .ok (.enter f (c.args.toList.map a.eval ++ cv).toArray) w := by
                have hargs : c.args.map a.eval = (c.args.toList.map a.eval).toArray := by rw [← Array.toList_map]
                simp [execOp, ho, resolve, hc, hfv, Deferred.ofValue, invoke, hargs]
                exact hent _ _
              unfold Oper.wp
              rw [hrun]
              show Calls P f _ w _
              refine (hext w0 w S0 hv s.st key _ _ ⟨D, some d, out⟩ d rfl hX rfl h.st (hev.append hcap) h.base h.s0 h.keep h.gh hk).mono ?_
              rintro e w' ⟨v, hv', rfl, hp⟩
              exact hK _ _ _ hp
            · cases hx
          · cases hx
        · cases hx
      · cases hx
    · cases hx
  · cases hx

theorem extGo_some {Y : Option ExtR} {r : Slot × Store} (h : extGo Y = some r) : ∃ D d out, Y = some ⟨D, some d, out⟩ ∧ out d = r := by
  unfold extGo at h
  split at h
  · injection h with h
    exact ⟨_, _, _, rfl, h⟩
  · cases h
theorem extGo_of {Y : Option ExtR} {D : Type} {val : Option D} {out : D → Slot × Store} {d : D} (h1 : Y = some ⟨D, val, out⟩) (h2 : val = some d) : extGo Y = some (out d) := by
  subst h1 h2
  rfl
theorem stepD_sound (ok : EnvOk w0.tr P E) (h : Rel w0 S0 hv s a w) (hk : ∀ j, j < 4 → hv (key + j) = none) {v : Slot} {st : Store} (he : stepD E key o s = some (v, st)) {K : Act → World → Prop} {Q : Exit → Act → World → Prop}
    (hK : ∀ hv' val w', Post w0 S0 hv s.st w key v st hv' val w' → K (a.put o.dst val) w') : o.wp P a w K Q := by
  unfold stepD at he
  split at he
  · rename_i X as hx
    obtain ⟨D, d, out, hX, he⟩ := extGo_some he
    refine ext_sound ok h hk hx hX fun hv' val w' hp => hK hv' val w' ?_
    rw [he] at hp
    exact hp
  split at he
  · rename_i c x y hkd
    have ho := kind_pick hkd
    split at he
    · rename_i c' sx sy hp
      simp only [Option.some.injEq, Prod.mk.injEq] at he
      obtain ⟨rfl, rfl⟩ := he
      unfold pickV at hp
      split at hp
      · rename_i c1 hc
        split at hp
        · rename_i sx' hx
          split at hp
          · rename_i sy' hy
            simp only [Option.some.injEq, Prod.mk.injEq] at hp
            obtain ⟨rfl, rfl, rfl⟩ := hp
            have hrun : (execOp a.eval o).run P w = .ok (.value (if c1 then a.eval x else a.eval y)) w := by
              simp [execOp, ho, bool_rep h.tmps hc, asBool]
            refine Done.wp (.inl hrun) (hK _ _ _ (Post.quiet h ?_))
            cases c1
            · exact ev_rep h.tmps hy
            · exact ev_rep h.tmps hx
          · cases hp
        · cases hp
      · cases hp
    · cases he
  · rename_i f args hkd
    obtain ⟨c, ho, hc, rfl⟩ := kind_call hkd
    split at he
    · rename_i sp x st' hcv
      split at he
      · rename_i r hr
        simp only [Option.some.injEq, Prod.mk.injEq] at he
        obtain ⟨rfl, rfl⟩ := he
        unfold callV at hcv
        split at hcv
        · rename_i sp' hsp
          split at hcv
          · rename_i as has
            split at hcv
            · rename_i x' hx
              split at hcv
              · rename_i hf
                simp only [Option.some.injEq, Sigma.mk.injEq] at hcv
                obtain ⟨rfl, hcv⟩ := hcv
                have hcv := eq_of_heq hcv
                simp only [Prod.mk.injEq] at hcv
                obtain ⟨rfl, rfl⟩ := hcv
                exact op_call ok h hk ho hc hsp has hx hf hr hK
              · cases hcv
            · cases hcv
          · cases hcv
        · cases hcv
      · cases he
    · cases he
  · split at he
    · rename_i c v' st' hev
      split at he
      · rename_i hc
        subst hc
        simp only [Option.some.injEq, Prod.mk.injEq] at he
        obtain ⟨rfl, rfl⟩ := he
        obtain ⟨hv', val, w', hd, hp⟩ := val_sound ok h (hk 0 (by omega)) hev
        exact hd.wp (hK _ _ _ hp)
      · cases he
    · cases he

theorem Rel.after (h : Rel w0 S0 hv s a w) {v : Slot} {st : Store} {hv' : Hv} {val : Value} {w' : World} (hp : Post w0 S0 hv s.st w key v st hv' val w') (d : Option Tmp) : Rel w0 S0 hv' (s.after d v st) (a.put d val) w' := by
  have ht : All2 (SlotRep w' (All S0 hv' st) hv') s.tmps a.tmps.toList := h.tmps.mono fun _ _ r => r.step hp.step hp.le
  cases d with
  | none => exact ⟨hp.rel, ht, hp.base, h.s0, hp.keep, h.dfr, hp.gh, h.stp.trans hp.step, fun b hb => (hp.kp b hb).trans (h.kp b hb)⟩
  | some t => exact ⟨hp.rel, by simpa [St.after, Act.put] using ht.set hp.rep t, hp.base, h.s0, hp.keep, h.dfr, hp.gh, h.stp.trans hp.step, fun b hb => (hp.kp b hb).trans (h.kp b hb)⟩

theorem Rel.skip (h : Rel w0 S0 hv s a w) (d : Option Tmp) : Rel w0 S0 hv (s.set d (.tup [])) (a.put d undef) w := by
  cases d with
  | none => exact h
  | some t => exact ⟨h.st, by simpa [St.set, Act.put] using h.tmps.set (show SlotRep _ _ _ (.tup []) undef from ⟨[], rfl, trivial⟩) t, h.base, h.s0, h.keep, h.dfr, h.gh, h.stp, h.kp⟩

/-- An operation's guard, as the model has it. -/
theorem guard_rep (h : Rel w0 S0 hv s a w) {ops : Array Oper} {g : Gd} (hg : guardOf ops o s = some g) : Region.wanted o (yielded ops a.tmps) = (match g with | .run => true | .skip => false | .test _ want b => b == want) := by
  unfold guardOf at hg
  split at hg
  · rename_i ho
    injection hg with hg
    subst hg
    simp [Region.wanted, ho]
  · rename_i j wt ho
    split at hg
    · rename_i t' ht
      split at hg
      · rename_i b' hb
        injection hg with hg
        subst hg
        obtain ⟨u, h1, h2⟩ := h.tmps.get _ _ hb
        obtain ⟨cs, h3, h4⟩ := h2
        have h3 : _ = _ := h3
        subst h3
        have h4 : u = .bool b' := h4
        subst h4
        have h1' : a.tmps[t']? = some (.bool b') := by simpa using h1
        simp only [Region.wanted, ho, yielded, ht, Option.bind_some, h1']
        rfl
      · rename_i hb
        injection hg with hg
        subst hg
        obtain ⟨u, h1, vs, h2, h3⟩ := h.tmps.get _ _ hb
        cases vs with
        | nil =>
          subst h2
          have h1' : a.tmps[t']? = some (.tuple #[]) := by simpa using h1
          simp only [Region.wanted, ho, yielded, ht, Option.bind_some, h1']
          rfl
        | cons _ _ => exact h3.elim
      · cases hg
    · cases hg
theorem guard_tmp {ops : Array Oper} {t : Tmp} {want b : Bool} (hg : guardOf ops o s = some (.test t want b)) : s.tmps[t]? = some (.one (.pure .bool b)) := by
  unfold guardOf at hg
  split at hg
  · simp at hg
  · split at hg
    · split at hg
      · rename_i hb
        simp only [Option.some.injEq, Gd.test.injEq] at hg
        obtain ⟨rfl, _, rfl⟩ := hg
        exact hb
      · cases hg
      · cases hg
    · cases hg

theorem set_same {s : St} {t : Tmp} {sl : Slot} (h : s.tmps[t]? = some sl) : s.set (some t) sl = s := by
  have : s.tmps.set t sl = s.tmps := by
    apply List.ext_getElem?
    intro i
    by_cases hi : t = i
    · subst hi
      rw [List.getElem?_set_self (List.getElem?_eq_some_iff.1 h).1, h]
    · rw [List.getElem?_set_ne hi]
  simp [St.set, this]

/-- What runOp means. -/
theorem runOp_step {K : St → Option R} {r : R} (he : runOp E key o s K = some r) : ∃ v st, stepD E key o s = some (v, st) ∧ K (s.after o.dst v st) = some r := by
  unfold runOp at he
  unfold stepD
  split at he
  · rename_i X as hx
    split at he
    · rename_i D val out hX
      split at he
      · rename_i d
        exact ⟨(out d).1, (out d).2, (extGo_of (D := D) (out := out) (d := d) hX rfl), he⟩
      · cases he
    · cases he
  split at he
  · rename_i c x y hkd
    split at he
    · cases he
    · rename_i c' sx sy hp
      split at he
      · rename_i t p t' q
        split at he
        · rename_i ht
          subst ht
          refine ⟨if c' = true then .one (.pure t' p) else .one (.pure t' q), s.st, by simp [hkd, hp], ?_⟩
          cases c' <;> exact he
        · cases he
      · refine ⟨if c' = true then sx else sy, s.st, by simp [hkd, hp], ?_⟩
        cases c' <;> exact he
  · rename_i f args hkd
    split at he
    · cases he
    · rename_i sp x st' hcv
      split at he
      · cases he
      · rename_i r' hr
        exact ⟨_, _, by simp [hkd, hcv, hr], he⟩
  · rename_i hkd
    split at he
    · cases he
    · rename_i c v st hev
      cases c with
      | false => cases he
      | true => exact ⟨v, st, by simp [hkd, hev], he⟩

/-- What runG means. -/
theorem runG_step {ops : Array Oper} {K : St → Option R} {r : R} (he : runG E ops key o s K = some r) : ∃ v st, stepG E ops key o s = some (v, st) ∧ K (s.after o.dst v st) = some r := by
  have hset : ∀ v, s.set o.dst v = s.after o.dst v s.st := fun v => by cases hd : o.dst <;> simp [St.set, St.after]
  unfold runG at he
  unfold stepG
  split at he
  · cases he
  · rename_i hg
    obtain ⟨v, st, h1, h2⟩ := runOp_step he
    exact ⟨v, st, by simp [hg, h1], h2⟩
  · rename_i hg
    exact ⟨_, _, by simp [hg]; exact ⟨rfl, rfl⟩, by rw [← hset]; exact he⟩
  · rename_i t b hg
    have hb := guard_tmp hg
    cases b with
    | true =>
      simp only [cond_true] at he
      rw [set_same hb] at he
      obtain ⟨v, st, h1, h2⟩ := runOp_step he
      exact ⟨v, st, by simp [hg, h1], h2⟩
    | false =>
      simp only [cond_false] at he
      rw [set_same hb] at he
      exact ⟨_, _, by simp [hg]; exact ⟨rfl, rfl⟩, by rw [← hset]; exact he⟩
  · rename_i t b hg
    have hb := guard_tmp hg
    cases b with
    | false =>
      simp only [cond_false] at he
      rw [set_same hb] at he
      obtain ⟨v, st, h1, h2⟩ := runOp_step he
      exact ⟨v, st, by simp [hg, h1], h2⟩
    | true =>
      simp only [cond_true] at he
      rw [set_same hb] at he
      exact ⟨_, _, by simp [hg]; exact ⟨rfl, rfl⟩, by rw [← hset]; exact he⟩

/-- A step under its guard: what the model does. -/
theorem stepG_sound (ok : EnvOk w0.tr P E) (h : Rel w0 S0 hv s a w) (hk : ∀ j, j < 4 → hv (key + j) = none) {ops : Array Oper} {v : Slot} {st : Store} (he : stepG E ops key o s = some (v, st)) {K : Act → World → Prop} {Q : Exit → Act → World → Prop}
    (hK : ∀ hv' a' w', Rel w0 S0 hv' (s.after o.dst v st) a' w' → (∀ k, (k < key ∨ key + 4 ≤ k) → hv' k = hv k) → K a' w') :
    if Region.wanted o (yielded ops a.tmps) then o.wp P a w K Q ∨ (o.asks P a w ∧ LetsOut Q) else K (a.put o.dst undef) w := by
  have hset : ∀ v, s.set o.dst v = s.after o.dst v s.st := fun v => by cases hd : o.dst <;> simp [St.set, St.after]
  have hskip : v = .tup [] → st = s.st → K (a.put o.dst undef) w := fun e1 e2 => by
    subst e1 e2
    exact hK hv _ _ (hset _ ▸ h.skip o.dst) fun _ _ => rfl
  unfold stepG at he
  split at he
  · cases he
  · rename_i hg
    rw [guard_rep h hg, if_pos rfl]
    exact .inl (stepD_sound ok h hk he fun hv' val w' hp => hK hv' _ _ (h.after hp _) hp.only)
  · rename_i hg
    rw [guard_rep h hg, if_neg (by simp)]
    simp only [Option.some.injEq, Prod.mk.injEq] at he
    exact hskip he.1.symm he.2.symm
  · rename_i t want b hg
    rw [guard_rep h hg]
    split at he
    · rename_i hb
      subst hb
      rw [if_pos (by simp)]
      exact .inl (stepD_sound ok h hk he fun hv' val w' hp => hK hv' _ _ (h.after hp _) hp.only)
    · rename_i hb
      rw [if_neg (by simpa using hb)]
      simp only [Option.some.injEq, Prod.mk.injEq] at he
      exact hskip he.1.symm he.2.symm

theorem after_next (d : Option Tmp) (v : Slot) (st : Store) : (s.after d v st).next = s.next := by cases d <;> rfl

theorem runOps_sound (ok : EnvOk w0.tr P E) {ops : Array Oper} {Q : Exit → Act → World → Prop} {K : St → Option R} {r : R} : ∀ (l : List Oper) (key : Nat) (s : St) (a : Act) (w : World) (hv : Hv), Rel w0 S0 hv s a w → (∀ j, key ≤ j → hv j = none) →
    runOps E ops key l s K = some r → (∀ hv' s' a' w', Rel w0 S0 hv' s' a' w' → (∀ j, key + 4 * l.length ≤ j → hv' j = none) → s'.next = s.next → K s' = some r → Q .normal a' w') → wpList P ops Q l a w
  | [], key, s, a, w, hv, h, hk, he, hQ => hQ hv s a w h (by simpa using hk) rfl he
  | o :: rest, key, s, a, w, hv, h, hk, he, hQ => by
    unfold runOps at he
    obtain ⟨v, st, h1, h2⟩ := runG_step (K := fun s' => runOps E ops (key + 4) rest s' K) he
    unfold wpList
    refine stepG_sound ok h (fun j _ => hk _ (by omega)) h1 fun hv' a' w' h' hon => ?_
    refine runOps_sound ok rest (key + 4) _ a' w' hv' h' (fun j hj => by rw [hon j (by omega)]; exact hk j (by omega)) h2 fun hv2 s2 a2 w2 g1 g2 g3 g4 => ?_
    exact hQ hv2 s2 a2 w2 g1 (fun j hj => g2 j (by simp only [List.length_cons] at hj; omega)) (g3.trans (after_next _ _ _)) g4
end Go.Ev
