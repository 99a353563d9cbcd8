/- Reading slots as plain data; changes of stores. -/
import Derived.Test.YtdchhhedpipeiaaEvB
set_option linter.unusedVariables false
set_option linter.unusedSimpArgs false
namespace Go.Ev
open Go.RowKit

variable {w : World} {S : Nat → Prop} {hv : Hv}

theorem mkVal_cells {t : Ty} {x : t.den} {cs : List Value} (h : Rep w S t x cs) : (mkVal t cs).cells = cs.toArray := by
  unfold mkVal
  cases t with
  | unit => rfl
  | one a => rfl
  | pair a b => rfl
  | int k => have h : _ = _ := h; subst h; rfl
  | bool => have h : _ = _ := h; subst h; rfl
  | f64 => have h : _ = _ := h; subst h; rfl
  | str => have h : _ = _ := h; subst h; rfl
  | sl e => obtain ⟨A, cap, rfl, _⟩ := h; rfl

theorem scatter_rep : ∀ {t : Ty} {x : t.den} {cs : List Value}, Rep w S t x cs → All2 (CRep w S hv) (scatter t x) cs
  | .int _, _, _, h => by have h' : _ = _ := h; subst h'; exact ⟨⟨⟨_, h, rfl⟩, trivial⟩, trivial⟩
  | .bool, _, _, h => by have h' : _ = _ := h; subst h'; exact ⟨⟨⟨_, h, rfl⟩, trivial⟩, trivial⟩
  | .f64, _, _, h => by have h' : _ = _ := h; subst h'; exact ⟨⟨⟨_, h, rfl⟩, trivial⟩, trivial⟩
  | .str, _, _, h => by have h' : _ = _ := h; subst h'; exact ⟨⟨⟨_, h, rfl⟩, trivial⟩, trivial⟩
  | .unit, _, _, h => by have h' : _ = _ := h; subst h'; trivial
  | .one a, x, _, h => scatter_rep (t := a) (show Rep w S a x _ from h)
  | .pair _ _, _, _, h => by
    obtain ⟨c1, c2, rfl, h1, h2⟩ := h
    exact (scatter_rep h1).append (scatter_rep h2)
  | .sl _, _, _, h => by
    have h0 := h
    obtain ⟨A, cap, rfl, _⟩ := h
    exact ⟨⟨⟨_, h0, rfl⟩, trivial⟩, trivial⟩

/-- Data of one cell. -/
theorem pure_cell {t : Ty} {x : t.den} {cs : List Value} (h : Rep w S t x cs) (hc : isCell (mkVal t cs)) : cs = [mkVal t cs] := by
  unfold mkVal at hc ⊢
  cases t with
  | unit => exact hc.elim
  | one a => exact hc.elim
  | pair a b => exact hc.elim
  | int k => have h : _ = _ := h; subst h; rfl
  | bool => have h : _ = _ := h; subst h; rfl
  | f64 => have h : _ = _ := h; subst h; rfl
  | str => have h : _ = _ := h; subst h; rfl
  | sl e => obtain ⟨A, cap, rfl, _⟩ := h; rfl

theorem castTy_rep {t t' : Ty} (h : t = t') {x : t.den} {cs : List Value} (r : Rep w S t x cs) : Rep w S t' (castTy h x) cs := by subst h; exact r

/-- The blocks of these rows are not in T. -/
def Free (hv : Hv) (st : Store) (l : List Nat) (T : Nat → Prop) : Prop := ∀ k ∈ l, ∀ e xs v b, st.get k = some (.row e xs) → hv k = some v → blk (.row e xs) v = some b → ¬ T b

theorem Rep.narrow {T : Nat → Prop} (hT : ∀ b, T b → S b) {t : Ty} {x : t.den} {cs : List Value} (r : Rep w S t x cs) : Rep w T t x cs :=
  r.step fun b o v h hc => ⟨fun hb => h (hT b hb), hc⟩

/-- A row of one's own, read as plain data where nobody writes it. -/
theorem row_rep {T : Nat → Prop} (hT : ∀ b, T b → S b) {v : Value} {e : Ty} {xs : List e.den} (h : ObRep w S hv v (.row e xs)) (hf : ∀ b, blk (.row e xs) v = some b → ¬ T b) : Rep w T (.sl e) xs [v] := by
  rcases h with ⟨A, rfl, rfl⟩ | ⟨b, o, cap, vs, ty, rfl, hc, hl, hb, hs, hin⟩
  · exact ⟨A, 0, rfl, Nat.le_refl _, fun i x hx => by simp at hx⟩
  · refine ⟨_, cap, rfl, hl, fun i x hx => ?_⟩
    obtain ⟨es, hr, he⟩ := hin i x hx
    refine ⟨b, o, es, rfl, hr.narrow hT, fun j c hj => ⟨hf b (by simp [blk, hc]), ?_⟩⟩
    rw [cell_of hb]
    exact he j c hj

theorem row_of {S0 : Nat → Prop} {st : Store} (h : StRel w S0 hv st) {k : Nat} {e : Ty} {xs : List e.den} (hr : st.row k e = some xs) {T : Nat → Prop} (hT : ∀ b, T b → All S0 hv st b) (hf : Free hv st [k] T) :
    ∃ v, hv k = some v ∧ Rep w T (.sl e) xs [v] := by
  unfold Store.row at hr
  split at hr
  · rename_i e' xs' hg
    split at hr
    · rename_i he
      injection he with he
      subst he
      injection hr with hr
      subst hr
      obtain ⟨v, hv1, ho⟩ := h.objs _ _ hg
      exact ⟨v, hv1, row_rep hT ho fun b hb => hf k (by simp) _ _ _ _ hg hv1 hb⟩
    · cases hr
  · rename_i e' xs' hg
    split at hr
    · rename_i he
      injection he with he
      subst he
      injection hr with hr
      subst hr
      obtain ⟨v, hv1, ho⟩ := h.objs _ _ hg
      exact ⟨v, hv1, Rep.narrow hT ho⟩
    · cases hr
  · cases hr

/-- A part of a slice. -/
theorem rep_part {T : Nat → Prop} {e : Ty} {xs : List e.den} {A A' : Option Addr} {len cap cap' lo n : Nat} (h : Rep w T (.sl e) xs [.slice A len cap]) (hn : lo + n ≤ len) (hc : cap' = cap - lo)
    (hA : 0 < cap' → ∀ b o, A = some ⟨b, o, none⟩ → A' = some ⟨b, o + lo * e.size, none⟩) : Rep w T (.sl e) ((xs.drop lo).take n) [.slice A' n cap'] := by
  obtain ⟨B, cap0, he, hl, H⟩ := h
  simp only [List.cons.injEq, and_true, Value.slice.injEq] at he
  obtain ⟨rfl, rfl, rfl⟩ := he
  have hlen : ((xs.drop lo).take n).length = n := by simp; omega
  refine ⟨A', cap', by rw [hlen], by rw [hlen]; omega, fun i x hx => ?_⟩
  have hi : i < n := by
    rcases Nat.lt_or_ge i n with h' | h'
    · exact h'
    · have h' : ((xs.drop lo).take n)[i]? = none := List.getElem?_eq_none (by omega)
      have hx' : ((xs.drop lo).take n)[i]? = some x := hx
      rw [h'] at hx'
      cases hx'
  have hx' : ((xs.drop lo).take n)[i]? = some x := hx
  rw [List.getElem?_take, if_pos hi, List.getElem?_drop] at hx'
  obtain ⟨b, o, es, rfl, hr, hcell⟩ := H (lo + i) x hx'
  refine ⟨b, o + lo * e.size, es, hA (by omega) b o rfl, hr, fun j c hj => ⟨(hcell j c hj).1, ?_⟩⟩
  have := (hcell j c hj).2
  rw [Nat.add_mul] at this
  rw [show o + lo * e.size + i * e.size + j = o + (lo * e.size + i * e.size) + j by omega]
  exact this

theorem as_rep {S0 : Nat → Prop} {st : Store} (h : StRel w S0 hv st) {a : AV} {v : Value} (hr : AVRep w (All S0 hv st) hv a v) {t : Ty} {x : t.den} (hx : a.as st t = some x)
    {T : Nat → Prop} (hT : ∀ b, T b → All S0 hv st b) (hf : Free hv st a.rows T) : ∃ cs, Rep w T t x cs ∧ v = mkVal t cs := by
  cases a with
  | pure t' x' =>
    simp only [AV.as] at hx
    split at hx
    · rename_i ht
      injection hx with hx
      subst hx
      obtain ⟨cs, hr, e⟩ := hr
      subst ht
      exact ⟨cs, hr.narrow hT, e⟩
    · cases hx
  | nil =>
    simp only [AV.as] at hx
    split at hx
    · injection hx with hx
      subst hx
      exact ⟨[.slice none 0 0], ⟨none, 0, rfl, Nat.le_refl _, fun i x hx => by simp at hx⟩, hr⟩
    · cases hx
  | own k =>
    simp only [AV.as] at hx
    split at hx
    · rename_i e
      obtain ⟨v', h1, h2⟩ := row_of h hx hT hf
      obtain rfl : v = v' := Option.some.inj (hr.1.symm.trans h1)
      exact ⟨[v], h2, rfl⟩
    · cases hx
  | view k sz lo n =>
    simp only [AV.as] at hx
    split at hx
    · rename_i e
      split at hx
      · rename_i hsz
        subst hsz
        split at hx
        · rename_i xs hxs
          injection hx with hx
          subst hx
          obtain ⟨v', h1, h2⟩ := row_of h hxs hT hf
          obtain ⟨A, len, cap, A', cap', hk, hlo, hlc, hcap, _, hA, rfl⟩ := hr
          obtain rfl := Option.some.inj (hk.symm.trans h1)
          exact ⟨_, rep_part h2 hlo hcap hA, rfl⟩
        · cases hx
      · cases hx
    · cases hx
  | ref => cases hx
  | cptr => cases hx
  | fn => cases hx
  | nilp => cases hx
  | dead => cases hx

theorem Free.sub {st : Store} {l l' : List Nat} {T : Nat → Prop} (h : Free hv st l T) (hl : ∀ k ∈ l', k ∈ l) : Free hv st l' T := fun k hk => h k (hl k hk)

theorem leaf_rep {S0 : Nat → Prop} {st : Store} (h : StRel w S0 hv st) {t : Ty} (ht : t.isAgg = false) {cs : List AV} {vs : List Value} {x : t.den} {r : List AV}
    (hx : leafOf st t cs = some (x, r)) (hr : All2 (CRep w (All S0 hv st) hv) cs vs) {T : Nat → Prop} (hT : ∀ b, T b → All S0 hv st b) (hf : Free hv st (cs.flatMap AV.rows) T) :
    ∃ v1 v2, vs = v1 ++ v2 ∧ Rep w T t x v1 ∧ All2 (CRep w (All S0 hv st) hv) r v2 ∧ ∀ k ∈ r.flatMap AV.rows, k ∈ cs.flatMap AV.rows := by
  match cs, vs, hr with
  | [], _, _ => simp [leafOf] at hx
  | c :: r', v :: vs', hr =>
    simp only [leafOf, Option.map_eq_some_iff] at hx
    obtain ⟨y, hy, he⟩ := hx
    injection he with h1 h2
    subst h1 h2
    obtain ⟨cs', hrep, hv'⟩ := as_rep h hr.1.1 hy hT (hf.sub fun k hk => by simp [hk])
    have hc := pure_cell hrep (hv' ▸ hr.1.2)
    refine ⟨[v], vs', rfl, ?_, hr.2, fun k hk => by simp at hk ⊢; exact .inr hk⟩
    rw [hv', ← hc]
    exact hrep

theorem gather_rep {S0 : Nat → Prop} {st : Store} (h : StRel w S0 hv st) {T : Nat → Prop} (hT : ∀ b, T b → All S0 hv st b) : ∀ {t : Ty} {cs : List AV} {vs : List Value} {x : t.den} {r : List AV}, All2 (CRep w (All S0 hv st) hv) cs vs →
    gather st t cs = some (x, r) → Free hv st (cs.flatMap AV.rows) T → ∃ v1 v2, vs = v1 ++ v2 ∧ Rep w T t x v1 ∧ All2 (CRep w (All S0 hv st) hv) r v2 ∧ ∀ k ∈ r.flatMap AV.rows, k ∈ cs.flatMap AV.rows
  | .unit, cs, vs, x, r, hr, hx, hf => by
    simp only [gather, Option.some.injEq, Prod.mk.injEq] at hx
    obtain ⟨_, rfl⟩ := hx
    exact ⟨[], vs, rfl, rfl, hr, fun _ h => h⟩
  | .one a, cs, vs, x, r, hr, hx, hf => gather_rep h hT (t := a) hr (by simpa only [gather] using hx) hf
  | .pair a b, cs, vs, x, r, hr, hx, hf => by
    simp only [gather] at hx
    split at hx
    · rename_i y r1 h1
      split at hx
      · rename_i z r2 h2
        simp only [Option.some.injEq, Prod.mk.injEq] at hx
        obtain ⟨rfl, rfl⟩ := hx
        obtain ⟨v1, v2, rfl, hr1, hr2, hk1⟩ := gather_rep h hT hr h1 hf
        obtain ⟨v3, v4, rfl, hr3, hr4, hk2⟩ := gather_rep h hT hr2 h2 (hf.sub hk1)
        exact ⟨v1 ++ v3, v4, by simp, ⟨v1, v3, rfl, hr1, hr3⟩, hr4, fun k hk => hk1 k (hk2 k hk)⟩
      · cases hx
    · cases hx
  | .int _, cs, vs, x, r, hr, hx, hf => leaf_rep h rfl (by simpa only [gather] using hx) hr hT hf
  | .bool, cs, vs, x, r, hr, hx, hf => leaf_rep h rfl (by simpa only [gather] using hx) hr hT hf
  | .f64, cs, vs, x, r, hr, hx, hf => leaf_rep h rfl (by simpa only [gather] using hx) hr hT hf
  | .str, cs, vs, x, r, hr, hx, hf => leaf_rep h rfl (by simpa only [gather] using hx) hr hT hf
  | .sl _, cs, vs, x, r, hr, hx, hf => leaf_rep h rfl (by simpa only [gather] using hx) hr hT hf

theorem slot_rep {S0 : Nat → Prop} {st : Store} (h : StRel w S0 hv st) {a : Slot} {v : Value} (hr : SlotRep w (All S0 hv st) hv a v) {t : Ty} {x : t.den} (hx : a.as st t = some x)
    {T : Nat → Prop} (hT : ∀ b, T b → All S0 hv st b) (hf : Free hv st a.rows T) : ∃ cs, Rep w T t x cs ∧ v = mkVal t cs := by
  cases a with
  | one a => exact as_rep h hr hx hT hf
  | agg cs =>
    simp only [Slot.as] at hx
    split at hx
    · rename_i ht
      split at hx
      · rename_i y hg
        injection hx with hx
        subst hx
        obtain ⟨vs, rfl, hr⟩ := hr
        obtain ⟨v1, v2, rfl, hrep, hr2, _⟩ := gather_rep h hT hr hg hf
        match v2, hr2 with
        | [], _ => exact ⟨v1, hrep, by simp [mkVal, ht]⟩
      · cases hx
    · cases hx
  | tup l => cases hx

/-- A value's cells. -/
theorem cells_rep {a : Slot} {v : Value} (hr : SlotRep w S hv a v) {cs : List AV} (h : a.cells = some cs) : All2 (CRep w S hv) cs v.cells.toList := by
  cases a with
  | agg l =>
    simp only [Slot.cells, Option.some.injEq] at h
    subst h
    obtain ⟨vs, rfl, hr⟩ := hr
    simpa [Value.cells] using hr
  | tup l => cases h
  | one a =>
    cases a with
    | pure t x =>
      simp only [Slot.cells, Option.some.injEq] at h
      subst h
      obtain ⟨cs, hr, rfl⟩ := hr
      rw [mkVal_cells hr]
      exact scatter_rep hr
    | dead => cases h
    | nil =>
      simp only [Slot.cells, Option.some.injEq] at h
      subst h
      have hr' : v = _ := hr
      subst hr'
      exact ⟨⟨rfl, trivial⟩, trivial⟩
    | own k =>
      simp only [Slot.cells, Option.some.injEq] at h
      subst h
      rw [isCell.cells hr.2]
      exact ⟨⟨hr, hr.2⟩, trivial⟩
    | view k sz lo n =>
      simp only [Slot.cells, Option.some.injEq] at h
      subst h
      have h0 := hr
      obtain ⟨A, len, cap, A', cap', _, _, _, _, _, _, rfl⟩ := hr
      exact ⟨⟨h0, trivial⟩, trivial⟩
    | ref k i sz off =>
      simp only [Slot.cells, Option.some.injEq] at h
      subst h
      have h0 := hr
      rcases hr with ⟨b, _, rfl⟩ | ⟨b, o, len, cap, _, _, rfl⟩
      · exact ⟨⟨h0, trivial⟩, trivial⟩
      · exact ⟨⟨h0, trivial⟩, trivial⟩
    | cptr t x off =>
      simp only [Slot.cells, Option.some.injEq] at h
      subst h
      have h0 := hr
      obtain ⟨b, o, cs, _, _, rfl⟩ := hr
      exact ⟨⟨h0, trivial⟩, trivial⟩
    | fn f caps =>
      simp only [Slot.cells, Option.some.injEq] at h
      subst h
      have h0 := hr
      obtain ⟨l, _, rfl⟩ := hr
      exact ⟨⟨h0, trivial⟩, trivial⟩
    | nilp =>
      simp only [Slot.cells, Option.some.injEq] at h
      subst h
      have h0 := hr
      rcases hr with rfl | rfl
      · exact ⟨⟨h0, trivial⟩, trivial⟩
      · exact ⟨⟨h0, trivial⟩, trivial⟩

/-! ### Constants and operands -/
theorem constAV_rep {v : Value} {a : AV} (h : constAV v = some a) : CRep w S hv a v := by
  unfold constAV at h
  split at h <;> first | (injection h with h; subst h) | cases h
  · exact ⟨⟨_, rfl, rfl⟩, trivial⟩
  · exact ⟨⟨_, rfl, rfl⟩, trivial⟩
  · exact ⟨⟨_, rfl, rfl⟩, trivial⟩
  · exact ⟨⟨_, rfl, rfl⟩, trivial⟩
  · exact ⟨rfl, trivial⟩
  · exact ⟨.inl rfl, trivial⟩
  · exact ⟨.inr rfl, trivial⟩
theorem constAVs_rep : ∀ {l : List Value} {as : List AV}, constAVs l = some as → All2 (CRep w S hv) as l
  | [], as, h => by
    simp only [constAVs, Option.some.injEq] at h
    subst h
    trivial
  | v :: r, as, h => by
    simp only [constAVs] at h
    split at h
    · rename_i a ha
      split at h
      · rename_i l hl
        injection h with h
        subst h
        exact ⟨constAV_rep ha, constAVs_rep hl⟩
      · cases h
    · cases h
theorem constSlot_rep {v : Value} {a : Slot} (h : constSlot v = some a) : SlotRep w S hv a v := by
  unfold constSlot at h
  split at h
  · rename_i cs
    obtain ⟨l, hl, rfl⟩ := Option.map_eq_some_iff.1 h
    exact ⟨cs.toList, by simp, constAVs_rep hl⟩
  · obtain ⟨l, hl, rfl⟩ := Option.map_eq_some_iff.1 h
    exact (constAV_rep hl).1

theorem ev_rep {s : St} {a : Act} (h : All2 (SlotRep w S hv) s.tmps a.tmps.toList) {x : Operand} {sl : Slot} (hx : s.ev x = some sl) : SlotRep w S hv sl (a.eval x) := by
  cases x with
  | tmp t =>
    obtain ⟨v, h1, h2⟩ := h.get t sl hx
    have h1' : a.tmps[t]? = some v := by simpa using h1
    simp only [Act.eval, Array.getD_eq_getD_getElem?, h1', Option.getD_some]
    exact h2
  | const v => exact constSlot_rep hx
  | func f =>
    simp only [St.ev, Option.some.injEq] at hx
    subst hx
    exact ⟨[], trivial, rfl⟩
  | global g => cases hx
theorem evs_rep {s : St} {a : Act} (h : All2 (SlotRep w S hv) s.tmps a.tmps.toList) : ∀ {xs : List Operand} {l : List Slot}, s.evs xs = some l → All2 (SlotRep w S hv) l (xs.map a.eval)
  | [], l, hx => by
    simp only [St.evs, Option.some.injEq] at hx
    subst hx
    trivial
  | x :: r, l, hx => by
    simp only [St.evs] at hx
    split at hx
    · rename_i b hb
      split at hx
      · rename_i l' hl
        injection hx with hx
        subst hx
        exact ⟨ev_rep h hb, evs_rep h hl⟩
      · cases hx
    · cases hx
theorem one_rep {s : St} {a : Act} (h : All2 (SlotRep w S hv) s.tmps a.tmps.toList) {x : Operand} {av : AV} (hx : s.one x = some av) : AVRep w S hv av (a.eval x) := by
  unfold St.one at hx
  split at hx
  · rename_i b hb
    injection hx with hx
    subst hx
    exact ev_rep h hb
  · cases hx
theorem int_rep {s : St} {a : Act} (h : All2 (SlotRep w S hv) s.tmps a.tmps.toList) {x : Operand} {k : IntKind} {n : Int} (hx : s.int x = some (k, n)) : a.eval x = .int k n := by
  unfold St.int at hx
  split at hx
  · rename_i k' n' hb
    injection hx with hx
    injection hx with h1 h2
    subst h1 h2
    obtain ⟨cs, hr, e⟩ := ev_rep h hb
    have hr : _ = _ := hr
    subst hr
    exact e
  · cases hx
theorem bool_rep {s : St} {a : Act} (h : All2 (SlotRep w S hv) s.tmps a.tmps.toList) {x : Operand} {b : Bool} (hx : s.bool x = some b) : a.eval x = .bool b := by
  unfold St.bool at hx
  split at hx
  · rename_i b' hb
    injection hx with hx
    subst hx
    obtain ⟨cs, hr, e⟩ := ev_rep h hb
    have hr : _ = _ := hr
    subst hr
    exact e
  · cases hx
theorem pure_int {k : IntKind} {n : Int} : AVRep w S hv (.pure (.int k) n) (.int k n) := ⟨_, rfl, rfl⟩
theorem pure_bool {b : Bool} : AVRep w S hv (.pure .bool b) (.bool b) := ⟨_, rfl, rfl⟩
theorem pure_f64 {b : Nat} : AVRep w S hv (.pure .f64 b) (.float .f64 b) := ⟨_, rfl, rfl⟩

/-! ### Parts -/
theorem proj_rep : ∀ {t : Ty} {x : t.den} {cs : List Value} {off : Nat} {u : Ty} {y : u.den}, Rep w S t x cs → proj t x off u = some y → Rep w S u y ((cs.drop off).take u.size) ∧ off + u.size ≤ cs.length := by
  intro t
  induction t with
  | one a ih =>
    intro x cs off u y hr h
    cases off with
    | zero =>
      unfold proj at h
      split at h
      · rename_i ht
        injection h with h
        subst h ht
        have hl := hr.length
        simp only [List.drop_zero, Nat.zero_add]
        rw [List.take_of_length_le (by omega)]
        exact ⟨hr, by omega⟩
      · exact ih (show Rep w S a x cs from hr) h
    | succ n =>
      unfold proj at h
      exact ih (show Rep w S a x cs from hr) h
  | pair a b iha ihb =>
    intro x cs off u y hr h
    cases off with
    | zero =>
      unfold proj at h
      split at h
      · rename_i ht
        injection h with h
        subst h ht
        have hl := hr.length
        simp only [List.drop_zero, Nat.zero_add]
        rw [List.take_of_length_le (by omega)]
        exact ⟨hr, by omega⟩
      · obtain ⟨c1, c2, rfl, h1, h2⟩ := hr
        obtain ⟨r, hl⟩ := iha h1 h
        simp only [List.drop_zero, Nat.zero_add] at r hl ⊢
        rw [List.take_append_of_le_length hl]
        exact ⟨r, by simp; omega⟩
    | succ n =>
      unfold proj at h
      simp only at h
      split at h
      · rename_i hlt
        obtain ⟨c1, c2, rfl, h1, h2⟩ := hr
        obtain ⟨r, hl⟩ := iha h1 h
        have h1l := h1.length
        rw [List.drop_append_of_le_length (by omega), List.take_append_of_le_length (by simp; omega)]
        exact ⟨r, by simp; omega⟩
      · rename_i hge
        obtain ⟨c1, c2, rfl, h1, h2⟩ := hr
        obtain ⟨r, hl⟩ := ihb h2 h
        have h1l := h1.length
        rw [List.drop_append, List.drop_eq_nil_of_le (by omega), List.nil_append, h1l]
        exact ⟨r, by simp; omega⟩
  | _ =>
    intro x cs off u y hr h
    cases off with
    | zero =>
      unfold proj at h
      split at h
      · rename_i ht
        injection h with h
        subst h ht
        have hl := hr.length
        simp only [List.drop_zero, Nat.zero_add]
        rw [List.take_of_length_le (by omega)]
        exact ⟨hr, by omega⟩
      · cases h
    | succ n =>
      unfold proj at h
      cases h

theorem upd_rep : ∀ {t : Ty} {x z : t.den} {cs ds : List Value} {off : Nat} {u : Ty} {y : u.den}, Rep w S t x cs → Rep w S u y ds → upd t x off u y = some z → Rep w S t z (cs.take off ++ ds ++ cs.drop (off + ds.length)) ∧ off + ds.length ≤ cs.length := by
  intro t
  induction t with
  | one a ih =>
    intro x z cs ds off u y hr hd h
    cases off with
    | zero =>
      unfold upd at h
      split at h
      · rename_i ht
        injection h with h
        subst h ht
        have hl := hr.length
        have hl' := hd.length
        simp only [List.take_zero, List.nil_append, Nat.zero_add]
        rw [List.drop_eq_nil_of_le (by omega), List.append_nil]
        exact ⟨hd, by omega⟩
      · exact ih (show Rep w S a x cs from hr) hd h
    | succ n =>
      unfold upd at h
      exact ih (show Rep w S a x cs from hr) hd h
  | pair a b iha ihb =>
    intro x z cs ds off u y hr hd h
    cases off with
    | zero =>
      unfold upd at h
      split at h
      · rename_i ht
        injection h with h
        subst h ht
        have hl := hr.length
        have hl' := hd.length
        simp only [List.take_zero, List.nil_append, Nat.zero_add]
        rw [List.drop_eq_nil_of_le (by omega), List.append_nil]
        exact ⟨hd, by omega⟩
      · obtain ⟨c1, c2, rfl, h1, h2⟩ := hr
        obtain ⟨x', hx', rfl⟩ := Option.map_eq_some_iff.1 h
        obtain ⟨r, hl⟩ := iha h1 hd hx'
        simp only [List.take_zero, List.nil_append, Nat.zero_add] at r hl ⊢
        rw [List.drop_append_of_le_length hl, ← List.append_assoc]
        exact ⟨⟨_, c2, rfl, r, h2⟩, by simp; omega⟩
    | succ n =>
      unfold upd at h
      simp only at h
      obtain ⟨c1, c2, rfl, h1, h2⟩ := hr
      have h1l := h1.length
      split at h
      · rename_i hlt
        obtain ⟨x', hx', rfl⟩ := Option.map_eq_some_iff.1 h
        obtain ⟨r, hl⟩ := iha h1 hd hx'
        rw [List.take_append_of_le_length (by omega), List.drop_append_of_le_length (by omega), ← List.append_assoc]
        exact ⟨⟨_, c2, rfl, r, h2⟩, by simp; omega⟩
      · rename_i hge
        obtain ⟨x', hx', rfl⟩ := Option.map_eq_some_iff.1 h
        obtain ⟨r, hl⟩ := ihb h2 hd hx'
        refine ⟨⟨c1, _, ?_, h1, r⟩, by simp; omega⟩
        rw [List.take_append, List.take_of_length_le (by omega), List.drop_append, List.drop_eq_nil_of_le (by omega), List.nil_append, h1l]
        simp only [List.append_assoc]
        congr 4
        omega
  | _ =>
    intro x z cs ds off u y hr hd h
    cases off with
    | zero =>
      unfold upd at h
      split at h
      · rename_i ht
        injection h with h
        subst h ht
        have hl := hr.length
        have hl' := hd.length
        simp only [List.take_zero, List.nil_append, Nat.zero_add]
        rw [List.drop_eq_nil_of_le (by omega), List.append_nil]
        exact ⟨hd, by omega⟩
      · cases h
    | succ n =>
      unfold upd at h
      cases h
end Go.Ev
