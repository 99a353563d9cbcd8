/- Changes of stores and of the world. -/
import Derived.Test.YtdchhhedpipeiaaEvC
set_option linter.unusedVariables false
set_option linter.unusedSimpArgs false
namespace Go.Ev
open Go.RowKit

/-! ### A block that is written -/
def putBlock (w : World) (b : Nat) (vs : Array Value) (ty : TypeId) : World := { w with heap := w.heap.setIfInBounds b (.cells vs ty (0, 0)) }
def writeAt (vs : Array Value) (o : Nat) (l : List Value) : Array Value := (vs.toList.take o ++ l ++ vs.toList.drop (o + l.length)).toArray

theorem putBlock_same {w : World} {b : Nat} {vs : Array Value} {ty : TypeId} (h : b < w.heap.size) : (putBlock w b vs ty).heap[b]? = some (.cells vs ty (0, 0)) := by
  simp [putBlock, h]
theorem putBlock_other {w : World} {b k : Nat} {vs : Array Value} {ty : TypeId} (h : k ≠ b) : (putBlock w b vs ty).heap[k]? = w.heap[k]? := by
  simp only [putBlock]
  rw [Array.getElem?_setIfInBounds_ne (Ne.symm h)]
theorem heap_lt {w : World} {b : Nat} {o : Obj} (h : w.heap[b]? = some o) : b < w.heap.size := (Array.getElem?_eq_some_iff.1 h).1
theorem below_putBlock {w0 : Base} {w : World} {b : Nat} {vs : Array Value} {ty : TypeId} (h : Below w0.tr w0.n w0.w w) (hb : w0.n ≤ b) : Below w0.tr w0.n w0.w (putBlock w b vs ty) :=
  ⟨h.os, h.tape, h.output, by simpa [putBlock] using h.size, fun k hk => by rw [putBlock_other (by omega)]; exact h.block k hk, h.drawn⟩

theorem writeAt_nil (vs : Array Value) (o : Nat) : writeAt vs o [] = vs := by simp [writeAt]
theorem writeAt_cons (vs : Array Value) (o : Nat) (v : Value) (l : List Value) (h : o < vs.size) : writeAt vs o (v :: l) = writeAt (vs.setIfInBounds o v) (o + 1) l := by
  have h' : o < vs.toList.length := by simpa using h
  unfold writeAt
  congr 1
  simp only [Array.toList_setIfInBounds]
  rw [List.take_set, List.drop_set_of_lt (by omega)]
  rw [List.take_succ_eq_append_getElem h']
  rw [List.set_append_right _ _ (by simp; omega)]
  have hm : min o vs.toList.length = o := Nat.min_eq_left (Nat.le_of_lt h')
  simp only [List.length_cons, List.append_assoc, List.length_take, hm, Nat.sub_self, List.set_cons_zero, List.cons_append, List.nil_append]
  rw [show o + 1 + l.length = o + (l.length + 1) by omega]
theorem size_writeAt (vs : Array Value) (o : Nat) (l : List Value) (h : o + l.length ≤ vs.size) : (writeAt vs o l).size = vs.size := by
  simp [writeAt]; omega
theorem get_writeAt (vs : Array Value) (o : Nat) (l : List Value) (h : o + l.length ≤ vs.size) (j : Nat) : (writeAt vs o l)[j]? = if j < o then vs[j]? else if j < o + l.length then l[j - o]? else vs[j]? := by
  have h' : o + l.length ≤ vs.toList.length := by simpa using h
  simp only [writeAt, List.getElem?_toArray, List.append_assoc]
  by_cases h1 : j < o
  · rw [if_pos h1, List.getElem?_append_left (by simp; omega), List.getElem?_take, if_pos h1]
    simp
  · rw [if_neg h1, List.getElem?_append_right (by simp; omega)]
    have hl : (vs.toList.take o).length = o := by simp; omega
    rw [hl]
    by_cases h2 : j < o + l.length
    · rw [if_pos h2, List.getElem?_append_left (by omega)]
    · rw [if_neg h2, List.getElem?_append_right (by omega), List.getElem?_drop]
      simp only [Array.getElem?_toList]
      congr 1
      omega

theorem storeCells_run (P : Program) (b : Nat) (ty : TypeId) (off : Nat) : ∀ (l : List Value) (vs : Array Value) (i : Nat) (w : World), w.heap[b]? = some (.cells vs ty (0, 0)) → (∀ c ∈ l, isCell c) → off + i + l.length ≤ vs.size →
    (storeCells ⟨b, off, none⟩ l i).run P w = .ok () (putBlock w b (writeAt vs (off + i) l) ty)
  | [], vs, i, w, h, _, _ => by
    simp only [storeCells, Sem.run_pure, writeAt_nil]
    congr 1
    have hb := heap_lt h
    have : w.heap.setIfInBounds b (.cells vs ty (0, 0)) = w.heap := by
      apply Array.ext_getElem?
      intro k
      by_cases hk : b = k
      · subst hk; rw [Array.getElem?_setIfInBounds_self_of_lt hb, h]
      · rw [Array.getElem?_setIfInBounds_ne hk]
    simp [putBlock, this]
  | v :: l, vs, i, w, h, hc, hl => by
    simp only [List.length_cons] at hl
    have hb := heap_lt h
    have hv := hc v (by simp)
    have hcell : w.cell? ⟨b, off + i, none⟩ = some (vs[off + i]'(by omega)) := by rw [cell_of h]; exact Array.getElem?_eq_getElem (by omega)
    have hfr : w.frozen? ⟨b, off + i, none⟩ = false := by simp [World.frozen?, h]
    have hset : w.setCell ⟨b, off + i, none⟩ v = putBlock w b (vs.setIfInBounds (off + i) v) ty := by
      unfold World.setCell putBlock
      congr 1
      apply Array.ext_getElem?
      intro k
      rw [Array.getElem?_modify]
      by_cases hk : b = k
      · subst hk; rw [if_pos rfl, h, Array.getElem?_setIfInBounds_self_of_lt hb]; rfl
      · rw [if_neg hk, Array.getElem?_setIfInBounds_ne hk]
    have hstore : (store ((⟨b, off, none⟩ : Addr).add i) v).run P w = .ok () (w.setCell ⟨b, off + i, none⟩ v) := by
      rw [add_none]
      rw [run_store P w _ v _ hv.one]
      simp [stored, hcell, hfr]
    simp only [storeCells, Sem.run_bind, hstore, Result.andThen_ok]
    rw [hset, storeCells_run P b ty off l (vs.setIfInBounds (off + i) v) (i + 1) _ (putBlock_same hb) (fun c h => hc c (by simp [h])) (by simp; omega)]
    congr 1
    rw [writeAt_cons _ _ _ _ (by omega)]
    simp only [putBlock, Array.setIfInBounds_setIfInBounds]
    rfl

/-! ### Stores -/
theorem MapIn.step {w w' : World} {S S' : Nat → Prop} (h : StepOk w S w' S') {k v : Ty} {l : List (Nat × (Ty.pair k v).den)} {es : List MapEntry} (r : MapIn w S k v l es) : MapIn w' S' k v l es :=
  All2.mono (fun p e ⟨h1, ⟨ck, h2, h3⟩, cv, h4, h5⟩ => ⟨h1, ⟨ck, h2.step h, h3⟩, cv, h4.step h, h5⟩) r
theorem ObRep.step {w w' : World} {S S' : Nat → Prop} {hv hv' : Hv} {v : Value} {o : Ob} (r : ObRep w S hv v o) (h : StepOk w S w' S') (hh : hv.le hv') (hb : ∀ b, blk o v = some b → w'.heap[b]? = w.heap[b]?) : ObRep w' S' hv' v o := by
  cases o with
  | cells cs =>
    obtain ⟨b, vs, ty, rfl, hw, hr⟩ := r
    exact ⟨b, vs, ty, rfl, by rw [hb b rfl]; exact hw, hr.mono fun _ _ => CRep.step h hh⟩
  | row e xs =>
    rcases r with r | ⟨b, o, cap, vs, ty, rfl, h0, h1, hw, h2, hin⟩
    · exact .inl r
    · refine .inr ⟨b, o, cap, vs, ty, rfl, h0, h1, by rw [hb b (by simp [blk, h0])]; exact hw, h2, fun i x hx => ?_⟩
      obtain ⟨es, he, hc⟩ := hin i x hx
      exact ⟨es, he.step h, hc⟩
  | frow e xs => exact Rep.step h r
  | ghost sl =>
    obtain ⟨vs, e, hr⟩ := r
    exact ⟨vs, e, hr.mono fun _ _ => SlotRep.step h hh⟩
  | map kt vt l c =>
    obtain ⟨b, es, rfl, hw, hr⟩ := r
    exact ⟨b, es, rfl, by rw [hb b rfl]; exact hw, MapIn.step h hr⟩

theorem blk_lt {w : World} {S : Nat → Prop} {hv : Hv} {v : Value} {o : Ob} {b : Nat} (r : ObRep w S hv v o) (h : blk o v = some b) : b < w.heap.size := by
  cases o with
  | cells cs =>
    obtain ⟨b', vs, ty, rfl, h3, _⟩ := r
    simp only [blk, Option.some.injEq] at h
    exact h ▸ heap_lt h3
  | row e xs =>
    rcases r with ⟨A, rfl, _⟩ | ⟨b', o', cap, vs, ty, rfl, h0, _, h3, _⟩
    · cases A <;> simp [blk] at h
    · simp only [blk, h0, if_true, Option.some.injEq] at h
      exact h ▸ heap_lt h3
  | frow e xs => simp [blk] at h
  | ghost sl => simp [blk] at h
  | map kt vt l c =>
    obtain ⟨b', es, rfl, h3, _⟩ := r
    simp only [blk, Option.some.injEq] at h
    exact h ▸ heap_lt h3
theorem StRel.blk_lt {w : World} {S0 : Nat → Prop} {hv : Hv} {st : Store} (h : StRel w S0 hv st) {k b : Nat} {o : Ob} {v : Value} (hg : st.get k = some o) (hk : hv k = some v) (hb : blk o v = some b) : b < w.heap.size := by
  obtain ⟨v', h1, h2⟩ := h.objs _ _ hg
  obtain rfl : v = v' := Option.some.inj (hk.symm.trans h1)
  exact Ev.blk_lt h2 hb

/-- A change of a store, given object by object. -/
theorem StRel.change {w w' : World} {S0 : Nat → Prop} {hv hv' : Hv} {st st' : Store} (h : StRel w S0 hv st) (hs : StepOk w (All S0 hv st) w' (All S0 hv' st')) (hh : hv.le hv')
    (ho : ∀ k o, st'.get k = some o → (st.get k = some o ∧ ∀ v b, hv k = some v → blk o v = some b → w'.heap[b]? = w.heap[b]?) ∨ ∃ v, hv' k = some v ∧ ObRep w' (All S0 hv' st') hv' v o)
    (hi : ∀ k o v k' o' v' b, st'.get k = some o → hv' k = some v → blk o v = some b → st'.get k' = some o' → hv' k' = some v' → blk o' v' = some b → k = k')
    (hout : ∀ b, Own hv' st' b → ¬ S0 b) : StRel w' S0 hv' st' := by
  refine ⟨fun k o hk => ?_, hi, hout⟩
  rcases ho k o hk with ⟨h1, h2⟩ | h3
  · obtain ⟨v, hv1, hr⟩ := h.objs k o h1
    exact ⟨v, hh _ _ hv1, hr.step hs hh fun b hb => h2 v b hv1 hb⟩
  · exact h3

/-- A row becomes plain: nothing else turns. -/
theorem freeze_rel {w : World} {S0 : Nat → Prop} {hv : Hv} {st : Store} (h : StRel w S0 hv st) (k : Nat) : StRel w S0 hv (st.freeze k) ∧ (∀ b, Own hv (st.freeze k) b → Own hv st b) := by
  unfold Store.freeze
  split
  · rename_i e xs hg
    have hsub : ∀ b, Own hv (st.put k (.frow e xs)) b → Own hv st b := by
      rintro b ⟨j, o, v, h1, h2, h3⟩
      rw [get_put] at h1
      split at h1
      · injection h1 with h1
        subst h1
        simp [blk] at h3
      · exact ⟨j, o, v, h1, h2, h3⟩
    have hsub' : ∀ b, All S0 hv (st.put k (.frow e xs)) b → All S0 hv st b := fun b hb => hb.imp id (hsub b)
    refine ⟨h.change ((StepOk.refl _ _).sub hsub') (Hv.le_refl _) (fun j o hj => ?_) (fun j o v j' o' v' b h1 h2 h3 h4 h5 h6 => ?_) (fun b hb => h.out b (hsub b hb)), hsub⟩
    · rw [get_put] at hj
      split at hj
      · rename_i hjk
        subst hjk
        injection hj with hj
        subst hj
        obtain ⟨v, hv1, hr⟩ := h.objs _ _ hg
        refine .inr ⟨v, hv1, row_rep hsub' hr fun b hb hb' => ?_⟩
        rcases hb' with hb' | ⟨j', o', v', h1, h2, h3⟩
        · exact h.out b ⟨_, _, _, hg, hv1, hb⟩ hb'
        · rw [get_put] at h1
          split at h1
          · injection h1 with h1
            subst h1
            simp [blk] at h3
          · rename_i hne
            exact hne (h.inj _ _ _ _ _ _ _ h1 h2 h3 hg hv1 hb)
      · exact .inl ⟨hj, fun _ _ _ _ => rfl⟩
    · rw [get_put] at h1 h4
      split at h1
      · injection h1 with h1
        subst h1
        simp [blk] at h3
      · split at h4
        · injection h4 with h4
          subst h4
          simp [blk] at h6
        · exact h.inj _ _ _ _ _ _ _ h1 h2 h3 h4 h5 h6
  · exact ⟨h, fun _ h => h⟩

theorem freezes_rel {w : World} {S0 : Nat → Prop} {hv : Hv} : ∀ (l : List Nat) {st : Store}, StRel w S0 hv st → StRel w S0 hv (st.freezes l) ∧ (∀ b, Own hv (st.freezes l) b → Own hv st b)
  | [], st, h => ⟨h, fun _ h => h⟩
  | k :: r, st, h => by
    have h1 := freeze_rel h k
    have h2 := freezes_rel r h1.1
    exact ⟨h2.1, fun b hb => h1.2 b (h2.2 b hb)⟩

/-- What freezing leaves of a row. -/
theorem get_freeze (st : Store) (k j : Nat) : (st.freeze k).get j = st.get j ∨ ∃ e xs, st.get j = some (.row e xs) ∧ (st.freeze k).get j = some (.frow e xs) ∧ j = k := by
  unfold Store.freeze
  split
  · rename_i e xs hg
    rw [get_put]
    split
    · rename_i h
      subst h
      exact .inr ⟨e, xs, hg, rfl, rfl⟩
    · exact .inl rfl
  · exact .inl rfl
theorem get_freezes : ∀ (l : List Nat) (st : Store) (j : Nat), (st.freezes l).get j = st.get j ∨ ∃ e xs, st.get j = some (.row e xs) ∧ (st.freezes l).get j = some (.frow e xs) ∧ j ∈ l
  | [], _, _ => .inl rfl
  | k :: r, st, j => by
    simp only [Store.freezes]
    rcases get_freezes r (st.freeze k) j with h | ⟨e, xs, h1, h2, h3⟩
    · rw [h]
      rcases get_freeze st k j with h' | ⟨e, xs, h1, h2, rfl⟩
      · exact .inl h'
      · exact .inr ⟨e, xs, h1, h2, by simp⟩
    · rcases get_freeze st k j with h' | ⟨e', xs', h1', h2', rfl⟩
      · rw [h'] at h1
        exact .inr ⟨e, xs, h1, h2, by simp [h3]⟩
      · rw [h1] at h2'
        cases h2'
/-- A row that is frozen owns no block any more. -/
theorem frozen_free {w : World} {S0 : Nat → Prop} {hv : Hv} {st : Store} (h : StRel w S0 hv st) (l l' : List Nat) (hl : ∀ k ∈ l', k ∈ l) : Free hv st l' (All S0 hv (st.freezes l)) := by
  intro k hk e0 xs0 v b hg hv1 hb hall
  rcases hall with h0 | ⟨j, o', v', h1, h2, h3⟩
  · exact h.out b ⟨k, _, v, hg, hv1, hb⟩ h0
  · have hjk : j = k := by
      have hg' : ∃ o'', st.get j = some o'' ∧ blk o'' v' = some b := by
        rcases get_freezes l st j with h4 | ⟨e, xs, h4, h5, _⟩
        · exact ⟨o', h4 ▸ h1, h3⟩
        · rw [h5] at h1
          injection h1 with h1
          subst h1
          simp [blk] at h3
      obtain ⟨o'', h4, h5⟩ := hg'
      exact h.inj _ _ _ _ _ _ _ h4 h2 h5 hg hv1 hb
    subst hjk
    have hkl := hl _ hk
    have key : ∀ (l : List Nat) (st : Store), j ∈ l → (∀ e xs, (st.freezes l).get j ≠ some (.row e xs)) := by
      intro l
      induction l with
      | nil => intro st hm; cases hm
      | cons i r ih =>
        intro st hm e xs hc
        simp only [Store.freezes] at hc
        by_cases hmr : j ∈ r
        · exact ih _ hmr e xs hc
        · have hji : j = i := by
            rcases List.mem_cons.1 hm with h' | h'
            · exact h'
            · exact absurd h' hmr
          subst hji
          rcases get_freezes r (st.freeze j) j with h' | ⟨_, _, _, h', hm'⟩
          · rw [h'] at hc
            unfold Store.freeze at hc
            split at hc
            · rw [get_put] at hc
              simp at hc
            · rename_i hno
              exact hno e xs hc
          · exact hmr hm'
    rcases get_freezes l st j with h4 | ⟨e, xs, h4, h5, _⟩
    · rw [h4, hg] at h1
      injection h1 with h1
      exact key l st hkl e0 xs0 (h4.trans hg)
    · rw [h5] at h1
      injection h1 with h1
      subst h1
      simp [blk] at h3

/-! ### New objects, objects that are written -/
def Hv.put (hv : Hv) (key : Nat) (v : Value) : Hv := fun j => if j = key then some v else hv j
theorem Hv.le_put {hv : Hv} {key : Nat} {v : Value} (h : hv key = none) : hv.le (hv.put key v) := by
  intro k u hk
  unfold Hv.put
  split
  · rename_i e; subst e; rw [h] at hk; cases hk
  · exact hk
theorem Hv.put_same {hv : Hv} {key : Nat} {v : Value} : hv.put key v key = some v := by simp [Hv.put]
theorem Hv.put_ne {hv : Hv} {key j : Nat} {v : Value} (h : j ≠ key) : hv.put key v j = hv j := by simp [Hv.put, h]

/-- An object is laid at a new key; an old one may be gone for it, its block taken over. -/
theorem StRel.lay {w w' : World} {S0 : Nat → Prop} {hv : Hv} {st : Store} (h : StRel w S0 hv st) {key : Nat} (hk : hv key = none) (k : Nat) (v : Value) (o : Ob)
    (hs0 : ∀ b, S0 b → b < w.heap.size)
    (hb : ∀ b, blk o v = some b → w.heap.size ≤ b ∨ ∃ o1 v1, st.get k = some o1 ∧ hv k = some v1 ∧ blk o1 v1 = some b)
    (hw : ∀ b, b < w.heap.size → blk o v ≠ some b → w'.heap[b]? = w.heap[b]?)
    (ho : StepOk w (All S0 hv st) w' (All S0 (hv.put key v) ((st.erase k).put key o)) → ObRep w' (All S0 (hv.put key v) ((st.erase k).put key o)) (hv.put key v) v o) :
    StRel w' S0 (hv.put key v) ((st.erase k).put key o) ∧ StepOk w (All S0 hv st) w' (All S0 (hv.put key v) ((st.erase k).put key o)) ∧ hv.le (hv.put key v) ∧
      (∀ b, Own (hv.put key v) ((st.erase k).put key o) b → Own hv st b ∨ w.heap.size ≤ b) := by
  have hnone : ∀ o', st.get key ≠ some o' := fun o' h' => by
    obtain ⟨v', h1, _⟩ := h.objs _ _ h'
    rw [hk] at h1
    cases h1
  have hget : ∀ j o', ((st.erase k).put key o).get j = some o' → (j = key ∧ o' = o) ∨ (j ≠ key ∧ j ≠ k ∧ st.get j = some o') := by
    intro j o' hj
    rw [get_put] at hj
    split at hj
    · rename_i e
      injection hj with hj
      exact .inl ⟨e, hj.symm⟩
    · rename_i hne
      rw [get_erase] at hj
      split at hj
      · cases hj
      · rename_i hne'
        exact .inr ⟨hne, hne', hj⟩
  have hown : ∀ b, Own (hv.put key v) ((st.erase k).put key o) b → blk o v = some b ∨ ∃ j o' v', j ≠ k ∧ st.get j = some o' ∧ hv j = some v' ∧ blk o' v' = some b := by
    rintro b ⟨j, o', v', h1, h2, h3⟩
    rcases hget j o' h1 with ⟨rfl, rfl⟩ | ⟨hne, hne', hg⟩
    · rw [Hv.put_same] at h2
      injection h2 with h2
      exact .inl (h2 ▸ h3)
    · rw [Hv.put_ne hne] at h2
      exact .inr ⟨j, o', v', hne', hg, h2, h3⟩
  have hstep : StepOk w (All S0 hv st) w' (All S0 (hv.put key v) ((st.erase k).put key o)) := by
    intro b off u hn hc
    have hlt := cell_lt hc
    have hne : blk o v ≠ some b := fun e => by
      rcases hb b e with h1 | ⟨o1, v1, h1, h2, h3⟩
      · omega
      · exact hn (.inr ⟨k, o1, v1, h1, h2, h3⟩)
    refine ⟨fun hb' => ?_, ?_⟩
    · rcases hb' with hb' | hb'
      · exact hn (.inl hb')
      · rcases hown b hb' with h1 | ⟨j, o', v', _, h1, h2, h3⟩
        · exact hne h1
        · exact hn (.inr ⟨j, o', v', h1, h2, h3⟩)
    · rw [World.cell?_of_block (w := w) (hw b hlt hne)]
      exact hc
  refine ⟨h.change hstep (Hv.le_put hk) (fun j o' hj => ?_) (fun j1 o1 v1 j2 o2 v2 b g1 g2 g3 g4 g5 g6 => ?_) (fun b hbo => ?_), hstep, Hv.le_put hk, fun b hbo => ?_⟩
  · rcases hget j o' hj with ⟨rfl, rfl⟩ | ⟨hne, hne', hg⟩
    · exact .inr ⟨v, Hv.put_same, ho hstep⟩
    · refine .inl ⟨hg, fun v' b hv' hb' => hw b (h.blk_lt hg hv' hb') fun e => ?_⟩
      rcases hb b e with h1 | ⟨o1, v1, h1, h2, h3⟩
      · exact absurd (h.blk_lt hg hv' hb') (by omega)
      · exact hne' (h.inj _ _ _ _ _ _ _ hg hv' hb' h1 h2 h3)
  · have hno : ∀ j p u c, j ≠ k → st.get j = some p → hv j = some u → blk p u = some c → blk o v = some c → False := fun j p u c hjk q1 q2 q3 q4 => by
      rcases hb c q4 with h1 | ⟨o3, v3, h1, h2, h3⟩
      · exact absurd (h.blk_lt q1 q2 q3) (by omega)
      · exact hjk (h.inj _ _ _ _ _ _ _ q1 q2 q3 h1 h2 h3)
    rcases hget j1 o1 g1 with ⟨rfl, rfl⟩ | ⟨hn1, hk1, hg1⟩
    · rcases hget j2 o2 g4 with ⟨rfl, rfl⟩ | ⟨hn2, hk2, hg2⟩
      · rfl
      · rw [Hv.put_same] at g2
        injection g2 with g2
        rw [Hv.put_ne hn2] at g5
        exact (hno _ _ _ _ hk2 hg2 g5 g6 (g2 ▸ g3)).elim
    · rw [Hv.put_ne hn1] at g2
      rcases hget j2 o2 g4 with ⟨rfl, rfl⟩ | ⟨hn2, hk2, hg2⟩
      · rw [Hv.put_same] at g5
        injection g5 with g5
        exact (hno _ _ _ _ hk1 hg1 g2 g3 (g5 ▸ g6)).elim
      · rw [Hv.put_ne hn2] at g5
        exact h.inj _ _ _ _ _ _ _ hg1 g2 g3 hg2 g5 g6
  · rcases hown b hbo with h1 | ⟨j, o', v', _, h1, h2, h3⟩
    · rcases hb b h1 with h2 | ⟨o1, v1, h2, h3, h4⟩
      · exact fun h0 => absurd (hs0 b h0) (by omega)
      · exact h.out b ⟨k, o1, v1, h2, h3, h4⟩
    · exact h.out b ⟨j, o', v', h1, h2, h3⟩
  · rcases hown b hbo with h1 | ⟨j, o', v', _, h1, h2, h3⟩
    · rcases hb b h1 with h2 | ⟨o1, v1, h2, h3, h4⟩
      · exact .inr h2
      · exact .inl ⟨k, o1, v1, h2, h3, h4⟩
    · exact .inl ⟨j, o', v', h1, h2, h3⟩

/-- An object is written: its block stays its own. -/
theorem StRel.write {w w' : World} {S0 : Nat → Prop} {hv : Hv} {st : Store} (h : StRel w S0 hv st) {k : Nat} {o o' : Ob} {v : Value} {b : Nat} (hg : st.get k = some o) (hk : hv k = some v) (hb : blk o v = some b) (hb' : blk o' v = some b)
    (hw : ∀ j, j ≠ b → w'.heap[j]? = w.heap[j]?)
    (ho : StepOk w (All S0 hv st) w' (All S0 hv (st.put k o')) → ObRep w' (All S0 hv (st.put k o')) hv v o') :
    StRel w' S0 hv (st.put k o') ∧ StepOk w (All S0 hv st) w' (All S0 hv (st.put k o')) ∧ (∀ b, Own hv (st.put k o') b → Own hv st b) := by
  have hown : ∀ c, Own hv (st.put k o') c → Own hv st c := by
    rintro c ⟨j, p, u, h1, h2, h3⟩
    rw [get_put] at h1
    split at h1
    · rename_i e
      subst e
      injection h1 with h1
      subst h1
      obtain rfl : v = u := Option.some.inj (hk.symm.trans h2)
      have : b = c := Option.some.inj (hb'.symm.trans h3)
      subst this
      exact ⟨_, o, v, hg, hk, hb⟩
    · exact ⟨j, p, u, h1, h2, h3⟩
  have hstep : StepOk w (All S0 hv st) w' (All S0 hv (st.put k o')) := by
    intro c off u hn hc
    have hne : c ≠ b := fun e => hn (.inr (e ▸ ⟨k, o, v, hg, hk, hb⟩))
    exact ⟨fun h' => hn (h'.imp id (hown c)), by rw [World.cell?_of_block (w := w) (hw c hne)]; exact hc⟩
  refine ⟨h.change hstep (Hv.le_refl _) (fun j p hj => ?_) (fun j1 o1 v1 j2 o2 v2 c g1 g2 g3 g4 g5 g6 => ?_) (fun c hc => h.out c (hown c hc)), hstep, hown⟩
  · rw [get_put] at hj
    split at hj
    · rename_i e
      subst e
      injection hj with hj
      subst hj
      exact .inr ⟨v, hk, ho hstep⟩
    · rename_i hne
      refine .inl ⟨hj, fun u c hu hc => hw c fun e => ?_⟩
      subst e
      exact hne (h.inj _ _ _ _ _ _ _ hj hu hc hg hk hb)
  · have hback : ∀ j p u, (st.put k o').get j = some p → hv j = some u → blk p u = some c → ∃ p', st.get j = some p' ∧ blk p' u = some c := by
      intro j p u q1 q2 q3
      rw [get_put] at q1
      split at q1
      · rename_i e
        subst e
        injection q1 with q1
        subst q1
        obtain rfl : v = u := Option.some.inj (hk.symm.trans q2)
        exact ⟨o, hg, hb.trans (hb'.symm.trans q3)⟩
      · exact ⟨p, q1, q3⟩
    obtain ⟨p1, q1, r1⟩ := hback _ _ _ g1 g2 g3
    obtain ⟨p2, q2, r2⟩ := hback _ _ _ g4 g5 g6
    exact h.inj _ _ _ _ _ _ _ q1 g2 r1 q2 g5 r2
end Go.Ev
