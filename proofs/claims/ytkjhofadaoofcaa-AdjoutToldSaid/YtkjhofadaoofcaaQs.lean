/- Contracts and laws that the claim needs, packed from several texts. -/
import Derived.Test.YtkjhofadaoofcaaQd
import Derived.Test.YtkjhofadaoofcaaQr
section
set_option linter.unusedVariables false
set_option linter.unusedSimpArgs false
namespace Go.Ev
open Go.RowKit Go.Shelf Go.Proofs
variable {P : Program}
def coCode (tS tQ : TypeId) (fA : FuncId) : Code := (Code.region 0 #[{ dst := some 2, op := .assign (.const (.slice none 0 0)), type := tS, pos := "iter.go:59", after := #[], guard := none }] false).seq
  ((Code.region 1 #[{ dst := some 3, op := .move (.tmp 0), type := tQ, pos := "iter.go:60", after := #[], guard := none }, { dst := some 4, op := .call { callee := .value (.func fA), args := #[.const (.slice none 0 0), .tmp 3], argTypes := #[tS, tQ] }, type := tS, pos := "iter.go:60", after := #[{ on := 0, ground := .data }], guard := none }, { dst := some 2, op := .assign (.tmp 4), type := tS, pos := "iter.go:60", after := #[{ on := 1, ground := .data }, { on := 1, ground := .chain }, { on := 0, ground := .phase }, { on := 1, ground := .phase }], guard := none }] false).seq .ret)
theorem collect_calls {tS tQ : TypeId} {fA f : FuncId} {fn : Func} (hf : P.funcs[f]? = some fn) (hb : fn.body = some (coCode tS tQ fA)) (hn : fn.ntmps = 5) (hres : fn.results = #[.tmp 2]) (eA : Entered P fA) {g : FuncId} {lb : Array Value} {w : World} {R : Value → World → Prop}
    (h : Calls P fA #[.slice none 0 0, .func (.func g) #[] lb] w fun e w' => ∃ v, e = .returned v ∧ R v w') : Calls P f #[.func (.func g) #[] lb] w fun e w' => ∃ v, e = .returned v ∧ R v w' := by
  have eA' : ∀ args w, (callFunc fA args).run P w = .ok (.enter fA args) w := eA
  refine calls_of_wp hf hb ?_
  simp only [hn, List.size_toArray, List.length_cons, List.length_nil, Nat.reduceAdd, Nat.reduceSub, Array.replicate_succ, Array.replicate_zero, List.push_toArray, List.append_toArray, List.nil_append, List.cons_append]
  unfold coCode
  go_wp2_with (go_at_fn fA; refine h.mono ?_; rintro e w' ⟨v, rfl, hR⟩)
  exact bodyPost_ret (results_tmp hres _ _ _) rfl ⟨v, rfl, hR⟩
def sfCode (tS tQ tC t0 : TypeId) (fC fO : FuncId) : Code := (Code.region 0 #[{ dst := some 4, op := .assign (.const (.slice none 0 0)), type := tS, pos := "iter.go:75", after := #[], guard := none }] false).seq
  ((Code.region 1 #[{ dst := some 6, op := .move (.tmp 0), type := tQ, pos := "iter.go:76", after := #[], guard := none }, { dst := some 7, op := .call { callee := .value (.func fC), args := #[.tmp 6], argTypes := #[tQ] }, type := tS, pos := "iter.go:76", after := #[{ on := 0, ground := .data }], guard := none }, { dst := some 5, op := .assign (.tmp 7), type := tS, pos := "iter.go:76", after := #[{ on := 1, ground := .data }, { on := 1, ground := .chain }, { on := 0, ground := .phase }, { on := 1, ground := .phase }], guard := none }] false).seq
  ((Code.region 2 #[{ dst := some 8, op := .move (.tmp 5), type := tS, pos := "iter.go:77", after := #[], guard := none }, { dst := some 9, op := .move (.tmp 1), type := tC, pos := "iter.go:77", after := #[], guard := none }, { dst := some 10, op := .call { callee := .value (.func fO), args := #[.tmp 8, .tmp 9], argTypes := #[tS, tC] }, type := t0, pos := "iter.go:77", after := #[{ on := 0, ground := .data }, { on := 1, ground := .data }], guard := none }] false).seq
  ((Code.region 3 #[{ dst := some 11, op := .move (.tmp 5), type := tS, pos := "iter.go:78", after := #[], guard := none }, { dst := some 4, op := .assign (.tmp 11), type := tS, pos := "iter.go:78", after := #[{ on := 0, ground := .data }, { on := 0, ground := .phase }], guard := none }] false).seq .ret)))
theorem sorted_calls {tS tQ tC t0 : TypeId} {fC fO f : FuncId} {fn : Func} (hf : P.funcs[f]? = some fn) (hb : fn.body = some (sfCode tS tQ tC t0 fC fO)) (hn : fn.ntmps = 12) (hres : fn.results = #[.tmp 4]) (eC : Entered P fC) (eO : Entered P fO) {v0 v1 : Value} {w : World} {R R2 : Value → World → Prop}
    (h : Calls P fC #[v0] w fun e w' => ∃ v, e = .returned v ∧ R v w') (h2 : ∀ v w1, R v w1 → Calls P fO #[v, v1] w1 fun e w2 => e = .returned (.tuple #[]) ∧ R2 v w2) : Calls P f #[v0, v1] w fun e w' => ∃ v, e = .returned v ∧ R2 v w' := by
  have eC' : ∀ args w, (callFunc fC args).run P w = .ok (.enter fC args) w := eC
  have eO' : ∀ args w, (callFunc fO args).run P w = .ok (.enter fO args) w := eO
  refine calls_of_wp hf hb ?_
  simp only [hn, List.size_toArray, List.length_cons, List.length_nil, Nat.reduceAdd, Nat.reduceSub, Array.replicate_succ, Array.replicate_zero, List.push_toArray, List.append_toArray, List.nil_append, List.cons_append]
  unfold sfCode
  go_wp2_with (first | (go_at_fn fC; refine h.mono ?_; rintro e w' ⟨v, rfl, hR⟩; have h3 := h2 v w' hR) | (go_at_fn fO; refine h3.mono ?_; rintro e w2 ⟨rfl, hR2⟩))
  exact bodyPost_ret (results_tmp hres _ _ _) rfl ⟨_, rfl, hR2⟩
end Go.Ev
end
section
set_option linter.unusedVariables false
set_option linter.unusedSimpArgs false
namespace Go.Ev
open Go.RowKit Go.Shelf Go.Proofs
variable {P : Program} {ρ : Ren} {w0 : Base} {w : World} {S0 : Nat → Prop} {hv : Hv} {st : Store} {key : Nat}
theorem Post.lay0 (h1 : StRel w S0 hv st) (hbase : ∀ b, Own hv st b → w0.n ≤ b) (hs0 : ∀ b, S0 b → b < w0.w.heap.size) (hkp : Below w0.tr w0.n w0.w w) (hg : ∀ k sl, st.get k = some (.ghost sl) → hv k = some w0.g) (hk : hv key = none) (v : Value) (ob : Ob) (hpl : ob.plain = true) (hfl : ob.flat = true) {w' : World} {sl : Slot} {val : Value}
    (hb : ∀ b, blk ob v = some b → w.heap.size ≤ b)
    (hw : ∀ b, b < w.heap.size → w'.heap[b]? = w.heap[b]?)
    (hkeep : Below w0.tr w0.n w0.w w')
    (ho : StepOk w (All S0 hv st) w' (All S0 (hv.put key v) (st.put key ob)) → ObRep w' (All S0 (hv.put key v) (st.put key ob)) (hv.put key v) v ob)
    (hr : SlotRep w' (All S0 (hv.put key v) (st.put key ob)) (hv.put key v) sl val) :
    Post w0 S0 hv st w key sl (st.put key ob) (hv.put key v) val w' := by
  have he := erase_none (h1.fresh hk)
  obtain ⟨r1, r2, r3, r4⟩ := h1.lay (w' := w') hk key v ob hfl (fun p hp => by rw [h1.fresh hk] at hp; cases hp) (fun b hb => Nat.lt_of_lt_of_le (hs0 b hb) hkp.size) (fun b e => .inl (hb b e)) (fun b hlt _ => hw b hlt) (by rw [he]; exact ho)
  rw [he] at r1 r2 r4
  refine ⟨r1, r2, r3, fun j hj => Hv.put_ne (by omega), hr, fun b hb => ?_, hkeep, fun k s hks => ?_, fun b hb0 => hw b (Nat.lt_of_lt_of_le (hs0 b hb0) hkp.size)⟩
  · rcases r4 b hb with h' | h'
    · exact hbase b h'
    · exact Nat.le_trans (Nat.le_trans w0.le hkp.size) h'
  · rw [get_put] at hks
    split at hks
    · injection hks with hks
      subst hks
      cases hpl
    · rename_i hne
      rw [Hv.put_ne hne]
      exact hg k s hks
theorem get_flatMap {α : Type} {enc : α → List Value} {k : Nat} (hk : ∀ x, (enc x).length = k) : ∀ (xs : List α) (i j : Nat) (x : α), xs[i]? = some x → j < k → (xs.flatMap enc)[i * k + j]? = (enc x)[j]?
  | [], i, j, x, h, _ => by simp at h
  | y :: r, 0, j, x, h, hj => by
    simp only [List.getElem?_cons_zero, Option.some.injEq] at h
    subst h
    rw [List.flatMap_cons, Nat.zero_mul, Nat.zero_add, List.getElem?_append_left (by rw [hk]; exact hj)]
  | y :: r, i + 1, j, x, h, hj => by
    rw [List.getElem?_cons_succ] at h
    rw [List.flatMap_cons, List.getElem?_append_right (by rw [hk, Nat.add_mul]; omega), hk, Nat.add_mul, Nat.one_mul, show i * k + k + j - k = i * k + j by omega]
    exact get_flatMap hk r i j x h hj
theorem row_of_own {w' : World} {S : Nat → Prop} {e : Ty} {base : Nat} {tE : TypeId} {v : Value} {ys : List e.den} {enc : e.den → List Value} (hk : ∀ x, (enc x).length = e.size) (hr : ∀ y ∈ ys, Rep w' S e y (enc y)) (h : w'.ownsRow base tE e.size v ys.length (ys.flatMap enc)) :
    RowRep w' S v e ys ∧ (∀ b, blk (.row e ys) v = some b → base ≤ b) ∧ ∃ A n c, v = .slice A n c := by
  rcases h.2 with ⟨rfl, h0⟩ | ⟨g, cap, cur, rfl, hg1, hg2, hg3, hg4, hg5, hg6⟩
  · exact ⟨.inl ⟨none, rfl, List.eq_nil_of_length_eq_zero h0⟩, fun b hb => by simp [blk] at hb, _, _, _, rfl⟩
  · refine ⟨?_, fun b hb => ?_, _, _, _, rfl⟩
    · rcases Nat.eq_zero_or_pos cap with h0 | h0
      · subst h0
        have : ys.length = 0 := by omega
        exact .inl ⟨_, by rw [this], List.eq_nil_of_length_eq_zero this⟩
      · refine .inr ⟨g, 0, cap, cur, _, rfl, h0, hg3, hg2, by rw [hg5]; omega, fun i x hx => ⟨enc x, hr x (List.mem_of_getElem? hx), fun j c hj => ?_⟩⟩
        have hjk : j < e.size := by
          have := (List.getElem?_eq_some_iff.1 hj).1
          rwa [hk] at this
        have hi : i < ys.length := (List.getElem?_eq_some_iff.1 hx).1
        have h1 := get_flatMap hk ys i j x hx hjk
        rw [← hg6, hj, List.getElem?_take] at h1
        have hlt : i * e.size + j < ys.length * e.size := by
          have := Nat.mul_le_mul_right e.size (show i + 1 ≤ ys.length from hi)
          rw [Nat.add_mul, Nat.one_mul] at this
          omega
        rw [if_pos hlt] at h1
        rw [Nat.zero_add, ← Array.getElem?_toList]
        exact h1
    · simp only [blk] at hb
      split at hb
      · injection hb with hb
        omega
      · cases hb
def capCode (tS tQ tF t0 : TypeId) (g : FuncId) (p1 p2 p3 p4 : String) : Code := (Code.region 0 #[{ dst := some 1, op := .box tS (.tmp 0), type := t0, pos := p1, after := #[], guard := none }, { dst := some 2, op := .assign (.const .nilFunc), type := tQ, pos := p2, after := #[], guard := none }] false).seq
  ((Code.region 1 #[{ dst := some 3, op := .makeFunc (.func g) #[] #[.tmp 1], type := tF, pos := p3, after := #[], guard := none }, { dst := some 2, op := .assign (.tmp 3), type := tQ, pos := p4, after := #[{ on := 0, ground := .data }, { on := 0, ground := .phase }], guard := none }] false).seq .ret)
theorem cap_calls {tS tQ tF t0 : TypeId} {g f : FuncId} {fn : Func} {p1 p2 p3 p4 : String} (hf : P.funcs[f]? = some fn) (hb : fn.body = some (capCode tS tQ tF t0 g p1 p2 p3 p4)) (hn : fn.ntmps = 4) (hres : fn.results = #[.tmp 2]) (aS : ∀ w, (isAgg tS).run P w = .ok false w) (v : Value) (hv : isCell v) (w : World) :
    Calls P f #[v] w fun e w' => e = .returned (.func (.func g) #[] #[.pointer (some ⟨w.heap.size, 0, none⟩)]) ∧ w' = w.alloc (.cells #[v] tS) := by
  have hc : v.cells = #[v] := hv.cells
  refine calls_of_wp hf hb ?_
  simp only [hn, List.size_toArray, List.length_cons, List.length_nil, Nat.reduceAdd, Nat.reduceSub, Array.replicate_succ, Array.replicate_zero, List.push_toArray, List.append_toArray, List.nil_append, List.cons_append]
  unfold capCode
  simp only [Value.cells] at hc
  go_wp2
  exact bodyPost_ret (results_tmp hres _ _ _) rfl ⟨rfl, rfl⟩
theorem cap_ok {f g : FuncId} {tS : TypeId} (hcall : ∀ (v : Value), isCell v → ∀ w : World, Calls P f #[v] w fun e w' => e = .returned (.func (.func g) #[] #[.pointer (some ⟨w.heap.size, 0, none⟩)]) ∧ w' = w.alloc (.cells #[v] tS)) : ExtOk false P f (capExt g) := by
  intro w0 w S0 hv st key sls vals R d htr hX hd hst hsl hbase hs0 hkeep hgh hk
  unfold capExt at hX
  split at hX
  · rename_i t x
    cases hag : t.isAgg with
    | true => rw [hag] at hX; cases hX
    | false =>
    rw [hag] at hX
    simp only [cond_false, Option.some.injEq] at hX
    subst hX
    match vals, hsl with
    | [v], ⟨hv0, _⟩ =>
    have hv0 : AVRep w (All S0 hv st) hv (.pure t x) v := hv0
    obtain ⟨cs, hcs, hcv⟩ := hv0
    have hl := hcs.length
    obtain ⟨c, rfl⟩ : ∃ c, cs = [c] := by
      have : t.size = 1 := by cases t <;> first | rfl | (simp [Ty.isAgg] at hag)
      match cs, (by omega : cs.length = 1) with
      | [c], _ => exact ⟨c, rfl⟩
    have hvc : v = c := by rw [hcv]; unfold mkVal; rw [hag]; rfl
    subst hvc
    have hcell : isCell v := hcs.isCell v List.mem_cons_self
    refine Calls.mono (hcall v hcell w) ?_
    rintro e w' ⟨rfl, rfl⟩
    have hnew : (w.alloc (.cells #[v] tS)).heap[w.heap.size]? = some (.cells #[v] tS (0, 0)) := heap_push _ _
    refine ⟨_, _, rfl, Post.lay0 (w0 := w0) hst hbase hs0 hkeep hgh (hk 0 (by omega)) (.pointer (some ⟨w.heap.size, 0, none⟩)) (.cells [.pure t x]) rfl rfl (fun b hb => ?_) (fun b hb => heap_push_lt w _ hb) (hkeep.alloc (Nat.le_trans w0.le hkeep.size) _) (fun hsp => ?_) ?_⟩
    · simp only [blk, Option.some.injEq] at hb
      omega
    · exact ⟨_, _, _, rfl, hnew, ⟨⟨[v], hcs.step hsp, hcv⟩, hcell⟩, trivial⟩
    · exact ⟨[_], ⟨Hv.put_same, trivial⟩, rfl⟩
  · cases hX
theorem cap_local (g : FuncId) : ExtLocal (capExt g) where
  congr key sls st1 st2 R d hX hd hr := by
    unfold capExt at hX ⊢
    split at hX
    · rename_i t x
      cases hag : t.isAgg with
      | true => rw [hag] at hX; cases hX
      | false =>
      rw [hag] at hX
      simp only [cond_false, Option.some.injEq] at hX ⊢
      subst hX
      simp only [hag, cond_false]
      exact ⟨⟨Unit, some (), fun _ => (.one (.fn g [key]), st2.put key (.cells [.pure t x]))⟩, d, rfl, hd, rfl, fun k hk => put_pw hk⟩
    · cases hX
  frame key sls st R d k hX hd hk hr := by
    unfold capExt at hX
    split at hX
    · rename_i t x
      cases hag : t.isAgg with
      | true => rw [hag] at hX; cases hX
      | false =>
      rw [hag] at hX
      simp only [cond_false, Option.some.injEq] at hX
      subst hX
      exact put_ne (by omega)
    · cases hX
end Go.Ev
end
section
set_option linter.unusedVariables false
set_option linter.unusedSimpArgs false
namespace Go.Ev
open Go.RowKit Go.Shelf Go.Proofs
variable {P : Program} {ρ : Ren} {w0 : Base} {w : World} {S0 : Nat → Prop} {hv : Hv} {st : Store} {key : Nat}
theorem caught (hst : StRel w S0 hv st) {c : Nat} {t : Ty} {x : t.den} (hc : st.get c = some (.cells [.pure t x])) {g : FuncId} {v : Value} (hsl : SlotRep w (All S0 hv st) hv (.one (.fn g [c])) v) :
    ∃ bc mv, v = .func (.func g) #[] #[.pointer (some ⟨bc, 0, none⟩)] ∧ w.cell? ⟨bc, 0, none⟩ = some mv ∧ Rep w (All S0 hv st) t x [mv] := by
  obtain ⟨lf, hlf, rfl⟩ := hsl
  match lf, hlf with
  | [pc], ⟨hpc, _⟩ =>
  have hpc : hv c = some pc := hpc
  obtain ⟨u, h1, bc, us, ty1, rfl, h2, h3⟩ := hst.objs _ _ hc
  have e0 : pc = .pointer (some ⟨bc, 0, none⟩) := Option.some.inj (hpc.symm.trans h1)
  subst e0
  match hul : us.toList, h3 with
  | [cv], hc1 =>
    have hus : us = #[cv] := by rw [← Array.toArray_toList (xs := us), hul]
    obtain ⟨⟨csl, hcsl, hcv⟩, hcvc⟩ := hc1.1
    have hcs1 : csl = [cv] := by
      rw [hcv]
      exact pure_cell hcsl (hcv ▸ hcvc)
    exact ⟨bc, cv, rfl, by rw [cell_of h2, hus]; rfl, hcs1 ▸ hcsl⟩
theorem col_local (g : FuncId) (e : Ty) : ExtLocal (colExt g e) where
  congr key sls st1 st2 R d hX hd hr := by
    unfold colExt at hX ⊢
    split at hX
    · rename_i g' c
      cases hb : Nat.beq g' g with
      | false => rw [hb] at hX; cases hX
      | true =>
        rw [hb] at hX
        simp only [cond_true] at hX ⊢
        have hc : st1.get c = st2.get c := hr c (reach_base (by simp [Slot.keys, AV.keys]))
        rw [← hc]
        split at hX
        · rename_i t x ho
          split at hX
          · rename_i h
            injection hX with hX
            subst hX
            simp only [h, dif_pos, hb, cond_true]
            exact ⟨⟨List e.den, collected (α := e.den) (castTy h x), fun xs => (.one (.own key), st2.put key (.row e xs))⟩, d, rfl, hd, rfl, fun k hk => put_pw hk⟩
          · cases hX
        · cases hX
    · cases hX
  frame key sls st R d k hX hd hk hr := by
    unfold colExt at hX
    split at hX
    · rename_i g' c
      cases hb : Nat.beq g' g with
      | false => rw [hb] at hX; cases hX
      | true =>
        rw [hb] at hX
        simp only [cond_true] at hX
        split at hX
        · split at hX
          · injection hX with hX
            subst hX
            exact put_ne (by omega)
          · cases hX
        · cases hX
    · cases hX
theorem col_ok {e : Ty} {f g : FuncId} (hcall : ∀ (w : World) (bc : Nat) (mv : Value) (S : Nat → Prop) (xs : List e.den), (∀ b, S b → b < w.heap.size) → w.cell? ⟨bc, 0, none⟩ = some mv → Rep w S (.sl e) xs [mv] → xs.length ≤ 1000000000 →
      Calls P f #[.func (.func g) #[] #[.pointer (some ⟨bc, 0, none⟩)]] w fun e' w' => ∃ v, e' = .returned v ∧ (∀ S', StepOk w S w' S' → RowRep w' S' v e xs) ∧ (∀ b, blk (.row e xs) v = some b → w.heap.size ≤ b) ∧ isCell v ∧ RowKit.Below w.heap.size w w') : ExtOk false P f (colExt g e) := by
  intro w0 w S0 hv st key sls vals R d htr hX hd hst hsl hbase hs0 hkeep hgh hk
  unfold colExt at hX
  split at hX
  · rename_i g' c
    cases hb : Nat.beq g' g with
    | false => rw [hb] at hX; cases hX
    | true =>
      rw [hb] at hX
      have hgg := Nat.eq_of_beq_eq_true hb
      subst hgg
      simp only [cond_true] at hX
      split at hX
      · rename_i t x ho
        split at hX
        · rename_i h
          subst h
          injection hX with hX
          subst hX
          have hd : collected (α := e.den) x = some d := hd
          unfold collected at hd
          cases hb2 : Nat.ble (List.length (α := e.den) x) 1000000000 with
          | false => rw [hb2] at hd; cases hd
          | true =>
          rw [hb2] at hd
          injection hd with hd
          subst hd
          match vals, hsl with
          | [v], ⟨hv0, _⟩ =>
          obtain ⟨bc, mv, rfl, h1, h2⟩ := caught hst ho hv0
          refine Calls.mono (hcall w bc mv (All S0 hv st) x (fun b hb => ?_) h1 h2 (Nat.le_of_ble_eq_true hb2)) ?_
          · rcases hb with hb | ⟨k, ob, u, q1, q2, q3⟩
            · exact Nat.lt_of_lt_of_le (hs0 b hb) hkeep.size
            · exact hst.blk_lt q1 q2 q3
          rintro e' w' ⟨v, rfl, h3, h4, h5, hbel⟩
          have hkp : Below w0.tr w0.n w0.w w' := hkeep.trans ⟨hbel.os, hbel.tape, hbel.output, hbel.size, fun j hj => hbel.block j (Nat.lt_of_lt_of_le hj (Nat.le_trans w0.le hkeep.size)), fun t => by rw [htr] at t; cases t⟩
          refine ⟨v, _, rfl, Post.lay0 (w0 := w0) hst hbase hs0 hkeep hgh (hk 0 (by omega)) v (.row e x) rfl rfl h4 (fun j hj => hbel.block j hj) hkp (fun hstp => ?_) ⟨Hv.put_same, ?_⟩⟩
          · exact h3 _ hstp
          · exact h5
        · cases hX
      · cases hX
  · cases hX
theorem col_ints {tS tE tI tB tY tQ t0 : TypeId} {by_ : Nat} {kd : IntKind} (T : ApTy P tS tE t0 1 by_ (.int kd 0) false) (V : VaTy P tS tE tI tB tY t0 false 1) {fC fA gV : FuncId} {fnC fnA fnV : Func}
    (hfC : P.funcs[fC]? = some fnC) (hbC : fnC.body = some (coCode tS tQ fA)) (hnC : fnC.ntmps = 5) (hrC : fnC.results = #[.tmp 2]) (hfA : P.funcs[fA]? = some fnA) (hbA : fnA.body = some (apCode1 tS tE tQ t0)) (hnA : fnA.ntmps = 13) (hrA : fnA.results = #[.tmp 4])
    (hfV : P.funcs[gV]? = some fnV) (hbV : fnV.body = some (vaCode1 tS tE tI tB tY t0)) (hnV : fnV.ntmps = 16) (hrV : fnV.results = #[]) (eA : Entered P fA) (eV : Entered P gV) (hby : by_ ≤ 16) : ExtOk false P fC (colExt gV (.int kd)) := by
  refine col_ok fun w bc mv S xs hS h1 h2 hlen => ?_
  obtain ⟨A, cap, hmv, hle, hel⟩ := h2
  injection hmv with hmv _
  subst hmv
  have hlen' : List.length (α := Int) xs ≤ 1000000000 := hlen
  have hmax : (1000000000 : Nat) ≤ maxLen := by decide
  refine collect_calls hfC hbC hnC hrC eA (R := fun v w' => (∀ S', StepOk w S w' S' → RowRep w' S' v (.int kd) xs) ∧ (∀ b, blk (.row (.int kd) xs) v = some b → w.heap.size ≤ b) ∧ isCell v ∧ RowKit.Below w.heap.size w w') ?_
  have hseq := values1 (P := P) V hfV hbV hnV hrV (xs := xs) (A := A) (cap := cap) (Bm := bc) (w := w) (kd := kd) (by omega) h1 fun i x hx => by
    obtain ⟨b, o, es, q1, q2, q3⟩ := hel i x hx
    have q2 : es = [.int kd x] := q2
    subst q2
    refine ⟨b, o, q1, ?_⟩
    have := (q3 0 _ rfl).2
    rwa [show Ty.size (.int kd) = 1 from rfl, Nat.mul_one, Nat.add_zero] at this
  refine Calls.mono (append1 T hfA hbA hnA hrA eV (N := List.length (α := Int) xs) (Nat.le_trans hlen' hmax) (by have := Nat.mul_le_mul hlen' hby; omega) hseq) ?_
  rintro e w' ⟨v, ys, rfl, rfl, hown, hbel⟩
  refine ⟨v, rfl, fun S' hst => ?_, ?_, ?_, hbel⟩
  · exact (row_of_own (e := .int kd) (enc := fun x : Int => [.int kd x]) (fun _ => rfl) (fun _ _ => rfl) hown).1
  · exact (row_of_own (S := S) (e := .int kd) (enc := fun x : Int => [.int kd x]) (fun _ => rfl) (fun _ _ => rfl) hown).2.1
  · obtain ⟨_, _, _, rfl⟩ := (row_of_own (S := S) (e := .int kd) (enc := fun x : Int => [.int kd x]) (fun _ => rfl) (fun _ _ => rfl) hown).2.2
    trivial
theorem sok_local (g gc : FuncId) (v : Ty) : ExtLocal (sokExt g gc v) where
  congr key sls st1 st2 R d hX hd hr := by
    unfold sokExt at hX ⊢
    split at hX
    · rename_i g' c g2
      cases hb : Nat.beq g' g && Nat.beq g2 gc with
      | false => rw [hb] at hX; cases hX
      | true =>
        rw [hb] at hX
        simp only [cond_true] at hX ⊢
        have hc : st1.get c = st2.get c := hr c (reach_base (by simp [Slot.keys, AV.keys]))
        rw [← hc]
        split at hX
        · rename_i t x ho
          split at hX
          · rename_i h
            injection hX with hX
            subst hX
            simp only [h, dif_pos, hb, cond_true]
            exact ⟨⟨List (Int × Int), sortedMap (V := v.den) (castTy h x).1 (castTy h x).2, fun xs => (.one (.own key), st2.put key (.row (.pair (.int .u32) (.int .i64)) xs))⟩, d, rfl, hd, rfl, fun k hk => put_pw hk⟩
          · cases hX
        · cases hX
    · cases hX
  frame key sls st R d k hX hd hk hr := by
    unfold sokExt at hX
    split at hX
    · rename_i g' c g2
      cases hb : Nat.beq g' g && Nat.beq g2 gc with
      | false => rw [hb] at hX; cases hX
      | true =>
        rw [hb] at hX
        simp only [cond_true] at hX
        split at hX
        · split at hX
          · injection hX with hX
            subst hX
            exact put_ne (by omega)
          · cases hX
        · cases hX
    · cases hX
abbrev prefT : Ty := .pair (.int .u32) (.int .i64)
theorem prefLt_ord (l : List (Int × Int)) : OrdOn prefLt l := ⟨fun x _ => by simp [prefLt], fun x _ y _ z _ h1 h2 => by
    simp only [prefLt, Bool.or_eq_true, Bool.and_eq_true, decide_eq_true_eq] at h1 h2 ⊢
    omega, fun x _ y _ h1 h2 => by
    simp only [prefLt, Bool.or_eq_false_iff, Bool.and_eq_false_iff, decide_eq_false_iff_not] at h1 h2
    exact Prod.ext (by omega) (by omega)⟩
set_option maxHeartbeats 2000000 in
theorem sok_ok (L : SlLaysF0.n6 P ρ) (aE : ∀ w, (isAgg (ρ.t 24)).run P w = .ok true w) (zE : ∀ w, (Go.sizeOf (ρ.t 24)).run P w = .ok 2 w) {gc : FuncId} (egc : Entered P gc) {F : CmpT prefT} (hC : Pure true P gc ⟨[prefT, prefT], [.pure (.int .i64)], F⟩)
    (hF : ∀ p q : Int × Int, prefOk p → prefOk q → ∃ r : Int, F (p, q, ()) = some (r, ()) ∧ (r < 0 ↔ prefLt p q = true))
    {tS tE tM tV tB tY tQ tC t0 : TypeId} {by_ : Nat} (T : ApTy P tS tE t0 2 by_ (.agg #[.int .u32 0, .int .i64 0]) true) (K : KeTy P tM tE tV tB tY t0 .u32 .i64) {f fC fA gK : FuncId} {fn fnC fnA fnK : Func}
    (hf : P.funcs[f]? = some fn) (hb : fn.body = some (sfCode tS tQ tC t0 fC (ρ.f 6))) (hn : fn.ntmps = 12) (hr : fn.results = #[.tmp 4])
    (hfC : P.funcs[fC]? = some fnC) (hbC : fnC.body = some (coCode tS tQ fA)) (hnC : fnC.ntmps = 5) (hrC : fnC.results = #[.tmp 2]) (hfA : P.funcs[fA]? = some fnA) (hbA : fnA.body = some (apCode2 tS tE tQ t0)) (hnA : fnA.ntmps = 13) (hrA : fnA.results = #[.tmp 4])
    (hfK : P.funcs[gK]? = some fnK) (hbK : fnK.body = some (keCode2 tM tE tB tY t0)) (hnK : fnK.ntmps = 14) (hrK : fnK.results = #[]) (eC : Entered P fC) (eO : Entered P (ρ.f 6)) (eA : Entered P fA) (eK : Entered P gK) (hby : by_ ≤ 16) (vt : Ty) : ExtOk false P f (sokExt gK gc vt) := by
  intro w0 w S0 hv st key sls vals R d htr hX hd hst hsl hbase hs0 hkeep hgh hk
  unfold sokExt at hX
  split at hX
  · rename_i g' c g2
    cases hbb : Nat.beq g' gK && Nat.beq g2 gc with
    | false => rw [hbb] at hX; cases hX
    | true =>
      rw [hbb] at hX
      rw [Bool.and_eq_true] at hbb
      have hgg := Nat.eq_of_beq_eq_true hbb.1
      have hgg2 := Nat.eq_of_beq_eq_true hbb.2
      subst hgg hgg2
      simp only [cond_true] at hX
      split at hX
      · rename_i t x ho
        split at hX
        · rename_i h
          subst h
          injection hX with hX
          subst hX
          obtain ⟨l, n⟩ := x
          have hd : sortedMap (V := vt.den) l n = some d := hd
          unfold sortedMap at hd
          split at hd
          · rename_i hfine
            injection hd with hd
            match vals, hsl with
            | [v, v2], ⟨hv0, hv2, _⟩ =>
            obtain ⟨bc, mv, rfl, h1, h2⟩ := caught hst ho hv0
            obtain ⟨lf, hlf, rfl⟩ := hv2
            match lf, hlf with
            | [], _ =>
            obtain ⟨b, es, hmv, hsb, hheap, hin⟩ := h2
            injection hmv with hmv _
            subst hmv
            have hmax : (1000000000 : Nat) ≤ maxLen := by decide
            have hlen := hfine.len
            have hseq := keys2 (P := P) K hfK hbK hnK hrK (vt := vt) (l := l) (c := n) (m := b) (Bm := bc) (S := All S0 hv st) (es := es) (w := w) h1 hheap hin hfine.born hfine.nodup
            have hcol := collect_calls hfC hbC hnC hrC eA (append2 T hfA hbA hnA hrA eK (N := l.length) (Nat.le_trans (Nat.le_of_lt hlen) hmax) (by have := Nat.mul_le_mul (Nat.le_of_lt hlen) hby; omega) hseq |>.mono fun e w' hq => by
              obtain ⟨v, xs, he, hS, hrow, hbel⟩ := hq
              exact (⟨v, he, xs, hS, hrow, hbel⟩ : ∃ v, e = .returned v ∧ ∃ xs : List (Int × Int), xs.Perm (l.map (·.2.1)) ∧ w'.ownsRow w.heap.size tE 2 v xs.length (xs.flatMap fun x : Int × Int => [Value.int .u32 x.1, Value.int .i64 x.2]) ∧ RowKit.Below w.heap.size w w'))
            have hlt : ∀ p q : Int × Int, prefOk p → prefOk q → ltT F p q = prefLt p q := fun p q hp hq => by
              obtain ⟨r, h1, h2⟩ := hF p q hp hq
              unfold ltT cmpT
              rw [h1]
              cases hc : prefLt p q with
              | true => exact decide_eq_true (h2.2 hc)
              | false => exact decide_eq_false fun h => by rw [h2.1 h] at hc; cases hc
            have hsort := sorted_calls hf hb hn hr eC eO (v1 := .func (.func g2) #[] #[]) hcol (R2 := fun v w2 => (∀ S', StepOk w (All S0 hv st) w2 S' → RowRep w2 S' v prefT d) ∧ (∀ b, blk (.row prefT d) v = some b → w.heap.size ≤ b) ∧ isCell v ∧ RowKit.Below w.heap.size w w2) (fun v w1 => by
              rintro ⟨xs, hperm, hrow, hbel⟩
              have hxs : ∀ x ∈ xs, prefOk x := fun x hx => by
                obtain ⟨e, he, rfl⟩ := List.mem_map.1 (hperm.mem_iff.1 hx)
                exact hfine.ok e he
              have hxl : xs.length = l.length := by rw [hperm.length_eq, List.length_map]
              have hok : SortOk F xs := ⟨by omega, fun x hx y hy => by
                obtain ⟨r, h1, _⟩ := hF x y (hxs x hx) (hxs y hy)
                exact ⟨r, h1⟩, fun x hx => by rw [hlt x x (hxs x hx) (hxs x hx)]; exact (prefLt_ord xs).irr x hx, fun x hx y hy z hz h1 h2 => by
                rw [hlt _ _ (hxs _ ‹_›) (hxs _ ‹_›)] at *
                exact (prefLt_ord xs).tr x hx y hy z hz h1 h2, fun x hx y hy h1 h2 => by
                rw [hlt _ _ (hxs _ ‹_›) (hxs _ ‹_›)] at *
                exact (prefLt_ord xs).tot x hx y hy h1 h2⟩
              have hdd : sortB (ltT F) xs = d := by
                rw [← hd]
                refine sortB_uniq (prefLt_ord _) ((sortB_perm _ xs).trans hperm) ?_
                refine (sortB_sorted hok.ord).imp_of_mem fun {x y} hx hy hxy => ?_
                rwa [hlt y x (hxs y ((sortB_perm _ xs).mem_iff.1 hy)) (hxs x ((sortB_perm _ xs).mem_iff.1 hx))] at hxy
              have hdl : d.length = xs.length := by rw [← hdd, length_sortB]
              rcases hrow.2 with ⟨rfl, h0⟩ | ⟨gb, cap, cur, rfl, hg1, hg2, hg3, hg4, hg5, hg6⟩
              · have hx0 : xs = [] := List.eq_nil_of_length_eq_zero h0
                subst hx0
                have hd0 : d = [] := List.eq_nil_of_length_eq_zero hdl
                refine Calls.mono (AnyF.slices_SortFunc_none L none 0 _ w1) ?_
                rintro e' w2 ⟨rfl, rfl⟩
                exact ⟨rfl, fun S' _ => .inl ⟨none, rfl, hd0⟩, fun b hb => by simp [blk] at hb, trivial, hbel⟩
              · have hgl := heap_lt hg2
                have hin1 : RowIn w1 (fun b => b = gb) prefT xs cur 0 := fun i x hx => by
                  refine ⟨[.int .u32 x.1, .int .i64 x.2], ⟨[_], [_], rfl, rfl, rfl⟩, fun j c hj => ?_⟩
                  have hj2 : j < 2 := (List.getElem?_eq_some_iff.1 hj).1
                  have h1 := get_flatMap (enc := fun x : Int × Int => [Value.int .u32 x.1, Value.int .i64 x.2]) (k := 2) (fun _ => rfl) xs i j x hx hj2
                  rw [← hg6, hj, List.getElem?_take] at h1
                  have hi : i < xs.length := (List.getElem?_eq_some_iff.1 hx).1
                  rw [if_pos (by omega)] at h1
                  show cur[0 + i * 2 + j]? = some c
                  rw [Nat.zero_add, ← Array.getElem?_toList]
                  exact h1
                refine Calls.mono (sort_raw L (e := prefT) rfl (by decide) aE zE egc hC (w := w1) (S := fun b => b = gb) (fun b hb => by rw [hb]; exact hgl) rfl hg2 (by show 0 + cap * 2 ≤ _; omega) hg3 hin1 hok) ?_
                rintro e' w2 ⟨rfl, vs', p1, p2, p3, p4, p5, p6, p7, p8, p9⟩
                rw [hdd] at p3
                refine ⟨rfl, fun S' _ => ?_, fun b hb => ?_, trivial, ?_⟩
                · rcases Nat.eq_zero_or_pos cap with h0 | h0
                  · have h9 : xs.length = 0 := by omega
                    refine .inl ⟨some ⟨gb, 0, none⟩, ?_, List.eq_nil_of_length_eq_zero (by omega)⟩
                    rw [h9, h0]
                  · refine .inr ⟨gb, 0, cap, vs', tE, by rw [hdl], h0, by rw [hdl]; exact hg3, p1, by rw [p2]; show 0 + cap * 2 ≤ _; omega, fun i x hx => ?_⟩
                    obtain ⟨es, q1, q2⟩ := p3 i x hx
                    exact ⟨es, q1, q2⟩
                · simp only [blk] at hb
                  split at hb
                  · injection hb with hb
                    omega
                  · cases hb
                · exact ⟨p6.trans hbel.os, p7.trans hbel.tape, p8.trans hbel.output, Nat.le_trans hbel.size p5, fun j hj => (p4 j (by have := hbel.size; omega) (by omega)).trans (hbel.block j hj)⟩)
            refine Calls.mono hsort ?_
            rintro e' w' ⟨v, rfl, h3, h4, h5, hbel⟩
            have hkp : Below w0.tr w0.n w0.w w' := hkeep.trans ⟨hbel.os, hbel.tape, hbel.output, hbel.size, fun j hj => hbel.block j (Nat.lt_of_lt_of_le hj (Nat.le_trans w0.le hkeep.size)), fun t => by rw [htr] at t; cases t⟩
            exact ⟨v, _, rfl, Post.lay0 (w0 := w0) hst hbase hs0 hkeep hgh (hk 0 (by omega)) v (.row prefT d) rfl rfl h4 (fun j hj => hbel.block j hj) hkp (fun hstp => h3 _ hstp) ⟨Hv.put_same, h5⟩⟩
          · cases hd
        · cases hX
      · cases hX
  · cases hX
end Go.Ev
end
