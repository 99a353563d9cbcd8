/- append and calls, as the evaluation has them. -/
import Derived.Test.YtdchhhedpipeiaaEvJ
set_option linter.unusedVariables false
set_option linter.unusedSimpArgs false
namespace Go.Ev
open Go.RowKit

variable {P : Program} {E : Env} {w0 : Base} {w : World} {S0 : Nat → Prop} {hv : Hv} {s : St} {a : Act} {key : Nat} {o : Oper}

/-- The slice that is appended: its elements hold to none of the rows of one's own. -/
theorem row_in {st : Store} (h : StRel w S0 hv st) {k : Nat} {e : Ty} {xs : List e.den} (hr : st.row k e = some xs) :
    ∃ A cap, hv k = some (.slice A xs.length cap) ∧ SlIn w (All S0 hv st) e xs A := by
  unfold Store.row at hr
  split at hr
  · rename_i e' xs' hg
    split at hr
    · rename_i he
      injection he with he
      subst he
      injection hr with hr
      subst hr
      obtain ⟨v, hv1, ho⟩ := h.objs _ _ hg
      rcases ho with ⟨A, rfl, rfl⟩ | ⟨b, o, cap, vs, ty, rfl, hc, hl, hb, hs, hin⟩
      · exact ⟨A, 0, hv1, fun i x hx => by cases (List.getElem?_eq_some_iff.1 (show ([] : List _)[i]? = some x from hx)).1⟩
      · refine ⟨_, cap, hv1, fun i x hx => ?_⟩
        obtain ⟨es, hr, he⟩ := hin i x hx
        refine ⟨b, o, es, rfl, hr, fun j c hj => ?_⟩
        rw [cell_of hb]
        exact he j c hj
    · cases hr
  · rename_i e' xs' hg
    split at hr
    · rename_i he
      injection he with he
      subst he
      injection hr with hr
      subst hr
      obtain ⟨v, hv1, ho⟩ := h.objs _ _ hg
      obtain ⟨A, cap, he, hl, H⟩ := ho
      injection he with he
      subst he
      refine ⟨A, cap, hv1, fun i x hx => ?_⟩
      obtain ⟨b, o, es, hA, hr, hcell⟩ := H i x hx
      exact ⟨b, o, es, hA, hr, fun j c hj => (hcell j c hj).2⟩
    · cases hr
  · cases hr
theorem src_nf {st : Store} (h : StRel w S0 hv st) {b : AV} {vy : Value} (hr : AVRep w (All S0 hv st) hv b vy) {e : Ty} {ys : List e.den} (hy : b.as st (.sl e) = some ys) :
    ∃ A cap, vy = .slice A ys.length cap ∧ SlIn w (All S0 hv st) e ys A := by
  cases b with
  | pure t' x' =>
    simp only [AV.as] at hy
    split at hy
    · rename_i ht
      injection hy with hy
      subst hy
      obtain ⟨cs, hr, rfl⟩ := hr
      subst ht
      obtain ⟨A, cap, rfl, hl, H⟩ := hr
      refine ⟨A, cap, rfl, fun i x hx => ?_⟩
      obtain ⟨b, o, es, hA, hr, hcell⟩ := H i x hx
      exact ⟨b, o, es, hA, hr, fun j c hj => (hcell j c hj).2⟩
    · cases hy
  | nil =>
    simp only [AV.as] at hy
    injection hy with hy
    subst hy
    exact ⟨none, 0, hr, fun i x hx => by simp at hx⟩
  | own k =>
    simp only [AV.as] at hy
    obtain ⟨A, cap, h1, h2⟩ := row_in h hy
    obtain rfl := Option.some.inj (hr.1.symm.trans h1)
    exact ⟨A, cap, rfl, h2⟩
  | view k sz lo n =>
    simp only [AV.as] at hy
    split at hy
    · rename_i hsz
      subst hsz
      split at hy
      · rename_i xs hxs
        injection hy with hy
        subst hy
        obtain ⟨A, cap, h1, h2⟩ := row_in h hxs
        obtain ⟨A0, len, cap0, A', cap', hk, hlo, hlc, hcap, _, hA, rfl⟩ := hr
        have h3 := Option.some.inj (hk.symm.trans h1)
        injection h3 with e1 e2 e3
        subst e1 e2 e3
        have hlen : ((xs.drop lo).take n).length = n := by simp; omega
        refine ⟨A', cap', by rw [hlen], fun i x hx => ?_⟩
        have hi : i < n := by
          have := (List.getElem?_eq_some_iff.1 hx).1
          omega
        rw [List.getElem?_take, if_pos hi, List.getElem?_drop] at hx
        obtain ⟨b, o, es, rfl, hr, hcell⟩ := h2 (lo + i) x hx
        refine ⟨b, o + lo * e.size, es, hA (by omega) b o rfl, hr, fun j c hj => ?_⟩
        have := hcell j c hj
        rw [Nat.add_mul] at this
        rw [show o + lo * e.size + i * e.size + j = o + (lo * e.size + i * e.size) + j by omega]
        exact this
      · cases hy
    · cases hy
  | _ => simp only [AV.as] at hy; cases hy
theorem src_cells {st : Store} (h : StRel w S0 hv st) {b : AV} {vy : Value} (hr : AVRep w (All S0 hv st) hv b vy) {e : Ty} {ys : List e.den} (hy : b.as st (.sl e) = some ys) :
    ∃ cs : List Value, (Builtin.lenOf vy).run P w = .ok ys.length w ∧ cs.length = ys.length * e.size ∧ (∀ (i : Nat) (y : e.den), ys[i]? = some y → ∃ es, Rep w (All S0 hv st) e y es ∧ ∀ (j : Nat) (c : Value), es[j]? = some c → cs[i * e.size + j]? = some c) ∧
      (∀ c ∈ cs, isCell c) ∧ ∀ w' : World, w'.heap = w.heap → (Builtin.firstCells e.size ys.length vy).run P w' = .ok cs.toArray w' := by
  obtain ⟨A, cap, rfl, H⟩ := src_nf h hr hy
  obtain ⟨cs, h1, h2, h3, h4⟩ := slIn_flat (P := P) (cap := cap) H
  exact ⟨cs, by simp [Builtin.lenOf], h1, h2, h3, h4⟩

theorem get_fz {st : Store} {b : Bool} {l : List Nat} {k : Nat} (h : k ∉ l) : (fz st b l).get k = st.get k := by
  unfold fz
  split
  · rcases get_freezes l st k with h' | ⟨_, _, _, _, h'⟩
    · exact h'
    · exact absurd h' h
  · rfl

theorem wrow_get {st : Store} {k : Nat} {e : Ty} {xs : List e.den} (h : st.wrow k e = some xs) : st.get k = some (.row e xs) := by
  unfold Store.wrow at h
  split at h
  · rename_i e' xs' hg
    split at h
    · rename_i he
      injection he with he
      subst he
      injection h with h
      subst h
      exact hg
    · cases h
  · cases h

theorem op_append (ok : EnvOk w0.tr P E) (h : Rel w0 S0 hv s a w) (hk : hv key = none) {c : Call} (ho : o.op = .call c) (hc : c.callee = .builtin .append) {x y : Operand} (hx : c.args.toList = [x, y]) {T T' : TypeId} (hT : c.argTypes.toList = [T, T'])
    {e e' : Ty} (hty : E.ty T = some (.sl e)) (hty' : E.ty T' = some (.sl e')) {by_ : Nat} (hby : E.bytes T = some by_) {av bv : AV} (hav : s.one x = some av) (hbv : s.one y = some bv) {v : Slot} {st : Store} (he : appendE s.st key e by_ av bv = some (.val true v st)) :
    Sound P w0 S0 hv s a w key o v st := by
  have hargs : c.args = #[x, y] := by rw [← Array.toArray_toList (xs := c.args), hx]
  have htys : c.argTypes = #[T, T'] := by rw [← Array.toArray_toList (xs := c.argTypes), hT]
  have ra := one_rep h.tmps hav
  have rb := one_rep h.tmps hbv
  have run : ∀ val w', (Builtin.append_ #[T, T'] o.type #[a.eval x, a.eval y]).run P w = .ok val w' → (execOp a.eval o).run P w = .ok (.value val) w' := fun val w' h' => by
    simp [execOp, ho, resolve, hc, hargs, htys, invoke, builtin, h']
  unfold appendE at he
  split at he
  · cases he
  · rename_i ys hys
    obtain ⟨cs, c1, c2, c3, c4, c5⟩ := src_cells (P := P) h.st rb hys
    have f1 := h.st
    have f2 : ∀ b, Own hv s.st b → Own hv s.st b := fun _ h => h
    split at he
    · simp only [Option.some.injEq, Eff.val.injEq, decide_eq_true_eq] at he
      obtain ⟨hle, rfl, rfl⟩ := he
      have e1 : a.eval x = .slice none 0 0 := ra
      obtain ⟨hv', val, w', h1, h2⟩ := append_core (A := none) (cap := 0) (zs := []) ok h h.gh f1 f2 hk hty hty' hby key (Nat.le_refl _) (.inl rfl) c1 c2 c3 c4 c5 (by simpa using hle)
      rw [erase_none (f1.fresh hk)] at h2
      exact ⟨hv', val, w', .inl (run _ _ (by rw [e1]; exact h1 _)), h2⟩
    · rename_i k
      split at he
      · cases he
      · rename_i hnk
        have hnk' : k ∉ bv.rows := by simpa using hnk
        split at he
        · rename_i xs hxs
          simp only [Option.some.injEq, Eff.val.injEq, decide_eq_true_eq] at he
          obtain ⟨hle, rfl, rfl⟩ := he
          have hg : s.st.get k = some (.row e xs) := wrow_get hxs
          obtain ⟨vk, hk1, hob⟩ := f1.objs _ _ hg
          have e1 := Option.some.inj (ra.1.symm.trans hk1)
          rcases hob with ⟨A, rfl, rfl⟩ | ⟨b, off, cap, vs, ty, rfl, g1, g2, g3, g4, g5⟩
          · obtain ⟨hv', val, w', h1, h2⟩ := append_core (A := A) (cap := 0) (zs := []) ok h h.gh f1 f2 hk hty hty' hby k (Nat.le_refl _) (.inl rfl) c1 c2 c3 c4 c5 (by simpa using hle)
            exact ⟨hv', val, w', .inl (run _ _ (by rw [e1]; exact h1 _)), h2⟩
          · obtain ⟨hv', val, w', h1, h2⟩ := append_core (A := some ⟨b, off, none⟩) (cap := cap) (zs := xs) ok h h.gh f1 f2 hk hty hty' hby k g2 (.inr ⟨b, off, vs, ty, _, _, rfl, g3, g4, g5, hg, hk1, by simp [blk, g1]⟩) c1 c2 c3 c4 c5 hle
            exact ⟨hv', val, w', .inl (run _ _ (by rw [e1]; exact h1 _)), h2⟩
        · cases he
    · rename_i k sz lo n
      split at he
      · cases he
      · rename_i hnk
        have hnk' : k ∉ bv.rows := by simpa using hnk
        split at he
        · rename_i hsz
          subst hsz
          split at he
          · rename_i xs hxs
            simp only [Option.some.injEq, Eff.val.injEq, decide_eq_true_eq] at he
            obtain ⟨hle, rfl, rfl⟩ := he
            have hg : s.st.get k = some (.row e xs) := wrow_get hxs
            obtain ⟨vk, hk1, hob⟩ := f1.objs _ _ hg
            obtain ⟨A, len, cap, A', cap', hk2, q1, q2, q3, q4, q5, e1⟩ := ra
            rw [hk1] at hk2
            injection hk2 with hk2
            subst hk2
            have hlen : len = xs.length := by
              rcases hob with ⟨B, h', rfl⟩ | ⟨b, off, cap1, vs, ty, h', _⟩
              · injection h' with _ h' _
              · injection h' with _ h' _
            subst hlen
            have hzl : ((xs.drop lo).take n).length = n := by simp; omega
            have hfin : ∀ hsrc, ∃ hv' val w', (∀ t, (Builtin.append_ #[T, T'] t #[.slice A' ((xs.drop lo).take n).length cap', a.eval y]).run P w = .ok val w') ∧ Post w0 S0 hv s.st w key (.one (.own key)) ((s.st.erase k).put key (.row e ((xs.drop lo).take n ++ ys))) hv' val w' :=
              fun hsrc => append_core (A := A') (cap := cap') (zs := (xs.drop lo).take n) ok h h.gh f1 f2 hk hty hty' hby k (by rw [hzl]; omega) hsrc c1 c2 c3 c4 c5 (by rw [hzl]; exact hle)
            have hsrc : cap' = 0 ∨ ∃ b off vs ty ob v0, A' = some ⟨b, off, none⟩ ∧ w.heap[b]? = some (.cells vs ty (0, 0)) ∧ off + cap' * e.size ≤ vs.size ∧ RowIn w (All S0 hv s.st) e ((xs.drop lo).take n) vs off ∧ s.st.get k = some ob ∧ hv k = some v0 ∧ blk ob v0 = some b := by
              rcases Nat.eq_zero_or_pos cap' with h0 | h0
              · exact .inl h0
              · rcases hob with ⟨B, h', hxs0⟩ | ⟨b, off, cap1, vs, ty, h', g1, g2, g3, g4, g5⟩
                · injection h' with _ _ h'
                  omega
                · injection h' with hA hl hcp
                  subst hA hcp
                  refine .inr ⟨b, off + lo * e.size, vs, ty, _, _, q5 h0 b off rfl, g3, ?_, ?_, hg, hk1, by simp [blk, g1]⟩
                  · have : lo * e.size + cap' * e.size = cap * e.size := by rw [← Nat.add_mul]; congr 1; omega
                    omega
                  · intro i z hz
                    have hi : i < n := by
                      have := (List.getElem?_eq_some_iff.1 hz).1
                      omega
                    rw [List.getElem?_take, if_pos hi, List.getElem?_drop] at hz
                    obtain ⟨es, r1, r2⟩ := g5 _ z hz
                    refine ⟨es, r1, fun j d hj => ?_⟩
                    have := r2 j d hj
                    rw [Nat.add_mul] at this
                    rw [← this]
                    congr 1
                    omega
            obtain ⟨hv', val, w', h1, h2⟩ := hfin hsrc
            rw [hzl] at h1
            exact ⟨hv', val, w', .inl (run _ _ (by rw [e1]; exact h1 _)), h2⟩
          · cases he
        · cases he
    · cases he

/-! ### Calls -/
theorem get_resStore : ∀ (outs : List OT) (r : OTup outs) (key : Nat) (st : Store) (j : Nat), (resStore outs r key st).get j = if key ≤ j ∧ j < key + freshes outs then (resStore outs r 0 []).get (j - key) else st.get j
  | [], _, key, st, j => by
    rw [if_neg (by simp only [freshes]; omega)]
    rfl
  | .pure t :: r, x, key, st, j => get_resStore r x.2 key st j
  | .fresh t :: r, x, key, st, j => by
    have hf : freshes (.fresh t :: r) = freshes r + 1 := rfl
    simp only [resStore]
    rw [get_resStore r x.2 (key + 1), get_put]
    by_cases h1 : key + 1 ≤ j ∧ j < key + 1 + freshes r
    · rw [if_pos h1, if_pos (by omega), get_resStore r x.2 (0 + 1), if_pos (by omega), show j - (key + 1) = j - key - (0 + 1) by omega]
    · rw [if_neg h1]
      by_cases h2 : j = key
      · subst h2
        rw [if_pos rfl, if_pos (by omega), get_resStore r x.2 (0 + 1), if_neg (by omega), get_put, if_pos (by omega)]
      · rw [if_neg h2, if_neg (by omega)]

theorem resAVs_rep {S S' : Nat → Prop} {hv hv' : Hv} {w' : World} (key : Nat) (hs : StepOk w S w' S') (hh : ∀ k v, hv k = some v → hv' (key + k) = some v) : ∀ (outs : List OT) (r : OTup outs) (d : Nat) (vs : List Value), All2 (AVRep w S hv) (resAVs outs r d) vs → All2 (AVRep w' S' hv') (resAVs outs r (key + d)) vs
  | [], _, _, [], _ => trivial
  | .pure t :: r, x, d, v :: vs, h => by
    obtain ⟨⟨cs, h1, h2⟩, h3⟩ := h
    exact ⟨⟨cs, h1.step hs, h2⟩, resAVs_rep key hs hh r x.2 d vs h3⟩
  | .fresh t :: r, x, d, v :: vs, h => by
    obtain ⟨h1, h3⟩ := h
    exact ⟨⟨hh _ _ h1.1, h1.2⟩, resAVs_rep key hs hh r x.2 (d + 1) vs h3⟩
  | [], _, _, _ :: _, h => h.elim
  | .pure _ :: _, _, _, [], h => h.elim
  | .fresh _ :: _, _, _, [], h => h.elim

theorem resAVs_noSl {S S' : Nat → Prop} {hv hv' : Hv} {w' : World} (key : Nat) (hh : ∀ k v, hv k = some v → hv' (key + k) = some v) : ∀ (outs : List OT) (hn : outsHold outs = false) (r : OTup outs) (d : Nat) (vs : List Value), All2 (AVRep w S hv) (resAVs outs r d) vs → All2 (AVRep w' S' hv') (resAVs outs r (key + d)) vs
  | [], _, _, _, [], _ => trivial
  | .pure t :: r, hn, x, d, v :: vs, h => by
    simp only [outsHold, Bool.or_eq_false_iff] at hn
    obtain ⟨⟨cs, h1, h2⟩, h3⟩ := h
    exact ⟨⟨cs, h1.noSl hn.1, h2⟩, resAVs_noSl key hh r hn.2 x.2 d vs h3⟩
  | .fresh t :: r, hn, x, d, v :: vs, h => by
    simp only [outsHold, Bool.or_eq_false_iff] at hn
    obtain ⟨h1, h3⟩ := h
    exact ⟨⟨hh _ _ h1.1, h1.2⟩, resAVs_noSl key hh r hn.2 x.2 (d + 1) vs h3⟩
  | [], _, _, _, _ :: _, h => h.elim
  | .pure _ :: _, _, _, _, [], h => h.elim
  | .fresh _ :: _, _, _, _, [], h => h.elim

/-- What a result's store holds: rows. -/
theorem resStore_row : ∀ (outs : List OT) (r : OTup outs) (key : Nat) (st : Store) (j : Nat) (ob : Ob), (resStore outs r key st).get j = some ob → st.get j = some ob ∨ ∃ t xs, ob = .row t xs ∧ (outsHold outs = false → t.hasSl = false)
  | [], _, _, _, _, _, h => .inl h
  | .pure t :: r, x, key, st, j, ob, h => by
    rcases resStore_row r x.2 key st j ob h with h' | ⟨t', xs, h1, h2⟩
    · exact .inl h'
    · exact .inr ⟨t', xs, h1, fun hn => h2 (by simp only [outsHold, Bool.or_eq_false_iff] at hn; exact hn.2)⟩
  | .fresh t :: r, x, key, st, j, ob, h => by
    rcases resStore_row r x.2 (key + 1) _ j ob h with h' | ⟨t', xs, h1, h2⟩
    · rw [get_put] at h'
      split at h'
      · injection h' with h'
        exact .inr ⟨t, x.1, h'.symm, fun hn => by simp only [outsHold, Bool.or_eq_false_iff] at hn; exact hn.1⟩
      · exact .inl h'
    · exact .inr ⟨t', xs, h1, fun hn => h2 (by simp only [outsHold, Bool.or_eq_false_iff] at hn; exact hn.2)⟩

theorem args_rep {S T : Nat → Prop} {st : Store} (h : StRel w S0 hv st) (hT : ∀ b, T b → All S0 hv st b) : ∀ {ts : List Ty} {as : List Slot} {vs : List Value} {x : Tup ts}, All2 (SlotRep w (All S0 hv st) hv) as vs → argsAs st ts as = some x → Free hv st (as.flatMap Slot.rows) T → ArgsRep w T ts x vs
  | [], [], [], _, _, _, _ => trivial
  | [], [], _ :: _, _, h, _, _ => h.elim
  | t :: ts, a :: as, v :: vs, x, hr, hx, hf => by
    simp only [argsAs] at hx
    split at hx
    · rename_i y hy
      split at hx
      · rename_i r hr'
        injection hx with hx
        subst hx
        exact ⟨slot_rep h hr.1 hy hT (hf.sub fun k hk => by simp; exact .inl hk), args_rep (S := S) h hT hr.2 hr' (hf.sub fun k hk => by simp at hk ⊢; exact .inr hk)⟩
      · cases hx
    · cases hx
  | t :: ts, a :: as, [], _, h, _, _ => h.elim
  | [], _ :: _, _, _, _, hx, _ => by simp [argsAs] at hx
  | _ :: _, [], _, _, _, hx, _ => by simp [argsAs] at hx

theorem slotOf_rep {S : Nat → Prop} {l : List AV} {vs : List Value} (h : All2 (AVRep w S hv) l vs) : SlotRep w S hv (slotOf l) (retOf vs) := by
  match l, vs, h with
  | [], [], _ => exact ⟨[], rfl, trivial⟩
  | [a], [v], h => exact h.1
  | a :: b :: r, v :: u :: m, h => exact ⟨v :: u :: m, rfl, h⟩

/-- The results of a call in the caller's store. -/
theorem Post.results (h : Rel w0 S0 hv s a w) {st1 : Store} (hg : Gh w0 hv st1) (h1 : StRel w S0 hv st1) (hsub : ∀ b, Own hv st1 b → Own hv s.st b) (hk : ∀ j, j < 4 → hv (key + j) = none) {outs : List OT} (hf : freshes outs ≤ 4) {r : OTup outs} {v : Value} {w' : World} (Sc : Nat → Prop)
    (hSc : outsHold outs = true → ∀ b, All S0 hv st1 b → Sc b) (hr : ResRep w.heap.size w' Sc outs r v) (hb : Below w0.tr w.heap.size w w') :
    ∃ hv', Post w0 S0 hv s.st w key (slotOf (resAVs outs r key)) (resStore outs r key st1) hv' v w' := by
  obtain ⟨hvr, vs, r1, r2, rfl, r3⟩ := hr
  let hv' : Hv := fun k => if key ≤ k ∧ k < key + freshes outs then hvr (k - key) else hv k
  have hin : ∀ k, k < freshes outs → hv' (key + k) = hvr k := fun k hk' => by
    simp only [hv']
    rw [if_pos (by omega)]
    congr 1
    omega
  have hout : ∀ k, ¬ (key ≤ k ∧ k < key + freshes outs) → hv' k = hv k := fun k hk' => by simp only [hv']; rw [if_neg hk']
  have hle : hv.le hv' := fun k u hu => by
    by_cases hk' : key ≤ k ∧ k < key + freshes outs
    · have := hk (k - key) (by omega)
      rw [show key + (k - key) = k by omega, hu] at this
      cases this
    · rw [hout k hk']; exact hu
  have hres : ∀ j ob, (resStore outs r 0 []).get j = some ob → j < freshes outs := fun j ob hj => by
    rw [get_resStore] at hj
    split at hj
    · omega
    · cases hj
  have hget : ∀ j ob, (resStore outs r key st1).get j = some ob → (∃ i, i < freshes outs ∧ j = key + i ∧ (resStore outs r 0 []).get i = some ob) ∨ (¬ (key ≤ j ∧ j < key + freshes outs) ∧ st1.get j = some ob) := fun j ob hj => by
    rw [get_resStore] at hj
    split at hj
    · exact .inl ⟨j - key, by omega, by omega, hj⟩
    · rename_i hn
      exact .inr ⟨hn, hj⟩
  have hown : ∀ b, Own hv' (resStore outs r key st1) b → Own hvr (resStore outs r 0 []) b ∨ Own hv st1 b := by
    rintro b ⟨j, ob, u, g1, g2, g3⟩
    rcases hget j ob g1 with ⟨i, hi, rfl, hg⟩ | ⟨hn, hg⟩
    · rw [hin i hi] at g2
      exact .inl ⟨i, ob, u, hg, g2, g3⟩
    · rw [hout j hn] at g2
      exact .inr ⟨j, ob, u, hg, g2, g3⟩
  have hlt1 : ∀ b, Own hv st1 b → b < w.heap.size := by
    rintro b ⟨j, ob, u, g1, g2, g3⟩
    exact h1.blk_lt g1 g2 g3
  have hstep : StepOk w (All S0 hv st1) w' (All S0 hv' (resStore outs r key st1)) := by
    intro b off u hn hc
    have hlt := cell_lt hc
    refine ⟨fun hb' => ?_, by rw [World.cell?_of_block (w := w) (hb.block b hlt)]; exact hc⟩
    rcases hb' with hb' | hb'
    · exact hn (.inl hb')
    · rcases hown b hb' with h' | h'
      · have := r3 b h'
        omega
      · exact hn (.inr h')
  have hsame : outsHold outs = true → StepOk w' (All Sc hvr (resStore outs r 0 [])) w' (All S0 hv' (resStore outs r key st1)) := fun ht => (StepOk.refl _ _).sub fun b hb' => by
    rcases hb' with hb' | hb'
    · exact .inl (hSc ht b (.inl hb'))
    · rcases hown b hb' with h' | h'
      · exact .inr h'
      · exact .inl (hSc ht b (.inr h'))
  refine ⟨hv', h1.change hstep hle (fun j ob hj => ?_) (fun j1 o1 v1 j2 o2 v2 b g1 g2 g3 g4 g5 g6 => ?_) (fun b hbo h0 => ?_), ((StepOk.refl _ _).sub fun b hb => hb.imp id (hsub b)).trans hstep, hle, fun k hk' => hout k (by omega), ?_, fun b hbo => ?_, h.keep.trans (hb.mono h.bn), ?_, fun b hb0 => hb.block b (Nat.lt_of_lt_of_le (h.s0 b hb0) h.keep.size)⟩
  · rcases hget j ob hj with ⟨i, hi, rfl, hg⟩ | ⟨hn, hg⟩
    · obtain ⟨u, hu, hob⟩ := r1.objs i ob hg
      refine .inr ⟨u, (hin i hi).trans hu, ?_⟩
      rcases resStore_row outs r 0 [] i ob hg with h' | ⟨t, xs, rfl, hns⟩
      · cases h'
      · rcases hob with q | ⟨b, off, cap, cells, ty, rfl, q1, q2, q3, q4, q5⟩
        · exact .inl q
        · refine .inr ⟨b, off, cap, cells, ty, rfl, q1, q2, q3, q4, fun i x hx => ?_⟩
          obtain ⟨es, p1, p2⟩ := q5 i x hx
          refine ⟨es, ?_, p2⟩
          cases ht : outsHold outs with
          | true => exact p1.step (hsame ht)
          | false => exact p1.noSl (hns ht)
    · exact .inl ⟨hg, fun u b hu hbl => hb.block b (h1.blk_lt hg hu hbl)⟩
  · rcases hget j1 o1 g1 with ⟨i1, hi1, rfl, hg1⟩ | ⟨hn1, hg1⟩
    · rw [hin i1 hi1] at g2
      rcases hget j2 o2 g4 with ⟨i2, hi2, rfl, hg2⟩ | ⟨hn2, hg2⟩
      · rw [hin i2 hi2] at g5
        rw [r1.inj _ _ _ _ _ _ _ hg1 g2 g3 hg2 g5 g6]
      · rw [hout j2 hn2] at g5
        have q1 := r3 b ⟨i1, o1, v1, hg1, g2, g3⟩
        have q2 := h1.blk_lt hg2 g5 g6
        omega
    · rw [hout j1 hn1] at g2
      rcases hget j2 o2 g4 with ⟨i2, hi2, rfl, hg2⟩ | ⟨hn2, hg2⟩
      · rw [hin i2 hi2] at g5
        have q1 := r3 b ⟨i2, o2, v2, hg2, g5, g6⟩
        have q2 := h1.blk_lt hg1 g2 g3
        omega
      · rw [hout j2 hn2] at g5
        exact h1.inj _ _ _ _ _ _ _ hg1 g2 g3 hg2 g5 g6
  · have hs0 := Nat.lt_of_lt_of_le (h.s0 b h0) h.keep.size
    rcases hown b hbo with h' | h'
    · have := r3 b h'
      omega
    · exact h1.out b h' h0
  · apply slotOf_rep
    have hh : ∀ k u, hvr k = some u → hv' (key + k) = some u ∨ ¬ k < freshes outs := fun k u hu => by
      by_cases hk' : k < freshes outs
      · exact .inl ((hin k hk').trans hu)
      · exact .inr hk'
    -- only the fresh keys are shown
    have hvr0 : Hv := fun k => if k < freshes outs then hvr k else none
    have key2 : ∀ (os : List OT) (x : OTup os) (d : Nat) (us : List Value), d + freshes os ≤ freshes outs → All2 (AVRep w' (All Sc hvr (resStore outs r 0 [])) hvr) (resAVs os x d) us → (outsHold outs = true ∨ outsHold os = false) → All2 (AVRep w' (All S0 hv' (resStore outs r key st1)) hv') (resAVs os x (key + d)) us := by
      intro os
      induction os with
      | nil => intro x d us _ hu _; cases us <;> first | trivial | exact hu.elim
      | cons ot os ih =>
        intro x d us hd hu hho
        cases us with
        | nil => cases ot <;> exact hu.elim
        | cons u us =>
          cases ot with
          | pure t =>
            obtain ⟨⟨cs, p1, p2⟩, p3⟩ := hu
            refine ⟨⟨cs, ?_, p2⟩, ih x.2 d us (by simpa [freshes] using hd) p3 (hho.imp id fun hn => by simp only [outsHold, Bool.or_eq_false_iff] at hn; exact hn.2)⟩
            rcases hho with ht | hn
            · exact p1.step (hsame ht)
            · simp only [outsHold, Bool.or_eq_false_iff] at hn
              exact p1.noSl hn.1
          | fresh t =>
            obtain ⟨p1, p3⟩ := hu
            simp only [freshes] at hd
            exact ⟨⟨(hin d (by omega)).trans p1.1, p1.2⟩, ih x.2 (d + 1) us (by omega) p3 (hho.imp id fun hn => by simp only [outsHold, Bool.or_eq_false_iff] at hn; exact hn.2)⟩
    exact key2 outs r 0 vs (by omega) r2 (by cases outsHold outs <;> simp)
  · rcases hown b hbo with h' | h'
    · exact Nat.le_trans h.bn (r3 b h')
    · exact h.base b (hsub b h')
  · intro j sl hj
    rcases hget j _ hj with ⟨i, hi, rfl, hg'⟩ | ⟨hn, hg'⟩
    · rcases resStore_row outs r 0 [] i _ hg' with h' | ⟨t, xs, h', _⟩
      · cases h'
      · cases h'
    · rw [hout j hn]
      exact hg j sl hg'

theorem op_call (ok : EnvOk w0.tr P E) (h : Rel w0 S0 hv s a w) (hk : ∀ j, j < 4 → hv (key + j) = none) {c : Call} (ho : o.op = .call c) {f : FuncId} (hc : c.callee = .value (.func f)) {sp : Spec} (hsp : E.call f = some sp) {as : List Slot} (has : s.evs c.args.toList = some as)
    {x : Tup sp.ins} (hx : argsAs s.st sp.ins as = some x) (hf : freshes sp.outs ≤ 4) {r : OTup sp.outs} (hr : sp.F x = some r) {K : Act → World → Prop} {Q : Exit → Act → World → Prop}
    (hK : ∀ hv' val w', Post w0 S0 hv s.st w key (slotOf (resAVs sp.outs r key)) (resStore sp.outs r key (fz s.st (outsHold sp.outs) (as.flatMap Slot.rows))) hv' val w' → K (a.put o.dst val) w') : o.wp P a w K Q := by
  obtain ⟨hent, hpure⟩ := ok.call _ _ hsp
  have hev := evs_rep h.tmps has
  have hrun : (execOp a.eval o).run P w = .ok (.enter f (c.args.toList.map a.eval).toArray) w := by
    have hargs : c.args.map a.eval = (c.args.toList.map a.eval).toArray := by rw [← Array.toList_map]
    simp [execOp, ho, resolve, hc, Act.eval, Deferred.ofValue, invoke, hargs]
    exact hent _ _
  obtain ⟨f1, f2⟩ := fz_rel h.st (outsHold sp.outs) (as.flatMap Slot.rows)
  have hs0 : ∀ b, S0 b → b < w.heap.size := fun b hb => Nat.lt_of_lt_of_le (h.s0 b hb) h.keep.size
  unfold Oper.wp
  rw [hrun]
  show Calls P f _ w _
  cases ht : outsHold sp.outs with
  | true =>
    rw [ht] at hK f1 f2
    have hargs : ArgsRep w (All S0 hv (fz s.st true (as.flatMap Slot.rows))) sp.ins x (c.args.toList.map a.eval) := args_rep (S := S0) h.st (fun b hb => hb.imp id (f2 b)) hev hx (frozen_free h.st _ _ fun _ h => h)
    refine (hpure x r hr w (All S0 hv (fz s.st true (as.flatMap Slot.rows))) _ (fun b hb => ?_) hargs).mono ?_
    · rcases hb with hb | ⟨j, ob, u, g1, g2, g3⟩
      · exact hs0 b hb
      · exact f1.blk_lt g1 g2 g3
    · rintro e w' ⟨v, rfl, hres, hbel⟩
      obtain ⟨hv', hp⟩ := Post.results h (fz_gh h.gh _ _) f1 f2 hk hf _ (fun _ _ hb => hb) hres hbel
      exact hK _ _ _ hp
  | false =>
    rw [ht] at hK f1 f2
    have hargs : ArgsRep w (fun _ => False) sp.ins x (c.args.toList.map a.eval) := args_rep (S := S0) h.st (fun _ h => h.elim) hev hx (fun _ _ _ _ _ _ _ _ _ h => h)
    refine (hpure x r hr w (fun _ => False) _ (fun _ h => h.elim) hargs).mono ?_
    rintro e w' ⟨v, rfl, hres, hbel⟩
    obtain ⟨hv', hp⟩ := Post.results h (fz_gh h.gh _ _) f1 f2 hk hf _ (fun hn => by rw [ht] at hn; cases hn) hres hbel
    exact hK _ _ _ hp
end Go.Ev
