/- What an operation hangs on, and what it leaves as it was. -/
import Derived.Test.YtdchhhedpipeiaaEvM
set_option linter.unusedVariables false
set_option linter.unusedSimpArgs false
namespace Go.Ev

variable {E : Env} {s s1 s2 : St} {key : Nat} {o : Oper} {st st1 st2 : Store}

/-! ### Stores, key by key -/
theorem get_freeze_eq (st : Store) (j k : Nat) : (st.freeze j).get k = if k = j then (match st.get k with | some (.row e xs) => some (.frow e xs) | x => x) else st.get k := by
  unfold Store.freeze
  split
  · rename_i e xs hg
    rw [get_put]
    by_cases h : k = j
    · subst h; simp [hg]
    · simp [h]
  · rename_i hno
    by_cases h : k = j
    · subst h
      rw [if_pos rfl]
      split
      · rename_i e xs hg; exact absurd hg (hno e xs)
      · rfl
    · simp [h]
theorem put_pw {k j : Nat} {ob : Ob} (h : st1.get k = st2.get k) : (st1.put j ob).get k = (st2.put j ob).get k := by rw [get_put, get_put, h]
theorem erase_pw {k j : Nat} (h : st1.get k = st2.get k) : (st1.erase j).get k = (st2.erase j).get k := by rw [get_erase, get_erase, h]
theorem freeze_pw {k j : Nat} (h : st1.get k = st2.get k) : (st1.freeze j).get k = (st2.freeze j).get k := by rw [get_freeze_eq, get_freeze_eq, h]
theorem freezes_pw {k : Nat} : ∀ (l : List Nat) {st1 st2 : Store}, st1.get k = st2.get k → (st1.freezes l).get k = (st2.freezes l).get k
  | [], _, _, h => h
  | j :: r, _, _, h => freezes_pw r (freeze_pw h)
theorem fz_pw {k : Nat} {b : Bool} {l : List Nat} (h : st1.get k = st2.get k) : (fz st1 b l).get k = (fz st2 b l).get k := by
  unfold fz
  cases b
  · exact h
  · exact freezes_pw l h
theorem get_fz_of {k : Nat} {b : Bool} {l : List Nat} (h : b = false ∨ k ∉ l) : (fz st b l).get k = st.get k := by
  rcases h with rfl | h
  · rfl
  · exact get_fz h
theorem resStore_pw {k : Nat} : ∀ (outs : List OT) (r : OTup outs) (key : Nat) {st1 st2 : Store}, st1.get k = st2.get k → (resStore outs r key st1).get k = (resStore outs r key st2).get k := by
  intro outs r key st1 st2 h
  rw [get_resStore, get_resStore outs r key st2, h]

/-! ### Reading -/
theorem row_congr {k : Nat} {e : Ty} (h : st1.get k = st2.get k) : st1.row k e = st2.row k e := by unfold Store.row; rw [h]
theorem wrow_congr {k : Nat} {e : Ty} (h : st1.get k = st2.get k) : st1.wrow k e = st2.wrow k e := by unfold Store.wrow; rw [h]
theorem len_congr {k : Nat} (h : st1.get k = st2.get k) : st1.len k = st2.len k := by unfold Store.len; rw [h]
theorem esize_congr {k : Nat} (h : st1.get k = st2.get k) : st1.esize k = st2.esize k := by unfold Store.esize; rw [h]

theorem rows_keys {a : AV} {k : Nat} (h : k ∈ a.rows) : k ∈ a.keys := by cases a <;> first | exact h | (simp [AV.rows] at h)
theorem Slot.rows_keys {a : Slot} {k : Nat} (h : k ∈ a.rows) : k ∈ a.keys := by
  cases a with
  | one a => exact Ev.rows_keys h
  | agg cs =>
    simp only [Slot.rows, Slot.keys, List.mem_flatMap] at h ⊢
    obtain ⟨c, h1, h2⟩ := h
    exact ⟨c, h1, Ev.rows_keys h2⟩
  | tup cs =>
    simp only [Slot.rows, Slot.keys, List.mem_flatMap] at h ⊢
    obtain ⟨c, h1, h2⟩ := h
    exact ⟨c, h1, Ev.rows_keys h2⟩

theorem as_congr {a : AV} {t : Ty} (h : ∀ k ∈ a.keys, st1.get k = st2.get k) : a.as st1 t = a.as st2 t := by
  cases a with
  | own k =>
    have := h k (by simp [AV.keys])
    cases t <;> simp [AV.as, row_congr this]
  | view k sz lo n =>
    have := h k (by simp [AV.keys])
    cases t <;> simp [AV.as, row_congr this]
  | _ => cases t <;> rfl
theorem leaf_congr {t : Ty} {cs : List AV} (h : ∀ k ∈ cs.flatMap AV.keys, st1.get k = st2.get k) : leafOf st1 t cs = leafOf st2 t cs := by
  cases cs with
  | nil => rfl
  | cons c r => simp only [leafOf]; rw [as_congr fun k hk => h k (by simp; exact .inl hk)]
theorem leaf_suffix {t : Ty} {cs r : List AV} {x : t.den} (h : leafOf st t cs = some (x, r)) : ∃ p, cs = p ++ r := by
  cases cs with
  | nil => cases h
  | cons c l =>
    simp only [leafOf, Option.map_eq_some_iff, Prod.mk.injEq] at h
    obtain ⟨_, _, _, rfl⟩ := h
    exact ⟨[c], rfl⟩
theorem gather_suffix : ∀ {t : Ty} {cs r : List AV} {x : t.den}, gather st t cs = some (x, r) → ∃ p, cs = p ++ r
  | .unit, cs, r, x, h => by
    simp only [gather, Option.some.injEq, Prod.mk.injEq] at h
    exact ⟨[], by simp [h.2]⟩
  | .one a, cs, r, x, h => gather_suffix (t := a) (by simpa only [gather] using h)
  | .pair a b, cs, r, x, h => by
    simp only [gather] at h
    split at h
    · rename_i y r1 h1
      split at h
      · rename_i z r2 h2
        simp only [Option.some.injEq, Prod.mk.injEq] at h
        obtain ⟨_, rfl⟩ := h
        obtain ⟨p, rfl⟩ := gather_suffix h1
        obtain ⟨q, rfl⟩ := gather_suffix h2
        exact ⟨p ++ q, by simp⟩
      · cases h
    · cases h
  | .int _, cs, r, x, h => leaf_suffix (by simpa only [gather] using h)
  | .bool, cs, r, x, h => leaf_suffix (by simpa only [gather] using h)
  | .f64, cs, r, x, h => leaf_suffix (by simpa only [gather] using h)
  | .str, cs, r, x, h => leaf_suffix (by simpa only [gather] using h)
  | .sl _, cs, r, x, h => leaf_suffix (by simpa only [gather] using h)
theorem gather_congr : ∀ {t : Ty} {cs : List AV}, (∀ k ∈ cs.flatMap AV.keys, st1.get k = st2.get k) → gather st1 t cs = gather st2 t cs
  | .unit, _, _ => rfl
  | .one a, cs, h => by simp only [gather]; exact gather_congr h
  | .pair a b, cs, h => by
    simp only [gather]
    rw [gather_congr (t := a) h]
    cases hg : gather st2 a cs with
    | none => rfl
    | some p =>
      obtain ⟨x, r⟩ := p
      obtain ⟨q, rfl⟩ := gather_suffix hg
      simp only
      rw [gather_congr (t := b) fun k hk => h k (by simp at hk ⊢; exact .inr hk)]
  | .int _, cs, h => by simp only [gather]; exact leaf_congr h
  | .bool, cs, h => by simp only [gather]; exact leaf_congr h
  | .f64, cs, h => by simp only [gather]; exact leaf_congr h
  | .str, cs, h => by simp only [gather]; exact leaf_congr h
  | .sl _, cs, h => by simp only [gather]; exact leaf_congr h
theorem slot_congr {a : Slot} {t : Ty} (h : ∀ k ∈ a.keys, st1.get k = st2.get k) : a.as st1 t = a.as st2 t := by
  cases a with
  | one a => exact as_congr h
  | agg cs => simp only [Slot.as]; rw [gather_congr h]
  | tup l => rfl
theorem lenOf_congr {a : AV} (h : ∀ k ∈ a.keys, st1.get k = st2.get k) : lenOfAV st1 a = lenOfAV st2 a := by
  cases a with
  | own k => exact len_congr (h k (by simp [AV.keys]))
  | pure t x => cases t <;> rfl
  | _ => rfl
theorem eqE_congr {T : TypeId} {x y : Slot} (hx : ∀ k ∈ x.keys, st1.get k = st2.get k) (hy : ∀ k ∈ y.keys, st1.get k = st2.get k) : eqE E T x y st1 = eqE E T x y st2 := by
  unfold eqE
  cases E.eqt T with
  | none => rfl
  | some u => simp only; rw [slot_congr hx, slot_congr hy]
theorem binE_congr {op : BinOp} {T : TypeId} {x y : Slot} (hx : ∀ k ∈ x.keys, st1.get k = st2.get k) (hy : ∀ k ∈ y.keys, st1.get k = st2.get k) : binE E op T x y st1 = binE E op T x y st2 := by
  unfold binE
  rw [eqE_congr hx hy]
theorem loadE_congr {T : TypeId} {a : AV} (h : ∀ k ∈ a.keys, st1.get k = st2.get k) : loadE E T a st1 = loadE E T a st2 := by
  cases a with
  | ref k i sz off => simp only [loadE]; rw [h k (by simp [AV.keys])]
  | _ => rfl
theorem args_congr : ∀ {ts : List Ty} {as : List Slot}, (∀ k ∈ as.flatMap Slot.keys, st1.get k = st2.get k) → argsAs st1 ts as = argsAs st2 ts as
  | [], [], _ => rfl
  | [], _ :: _, _ => rfl
  | _ :: _, [], _ => rfl
  | t :: ts, a :: as, h => by
    simp only [argsAs]
    rw [slot_congr (a := a) (t := t) fun k hk => h k (by simp; exact .inl hk), args_congr (ts := ts) (as := as) fun k hk => h k (by simp at hk ⊢; exact .inr hk)]

/-! ### Operands -/
theorem flatMap_eq {α β : Type} {f g : α → List β} : ∀ {l : List α}, (∀ x ∈ l, f x = g x) → l.flatMap f = l.flatMap g
  | [], _ => rfl
  | x :: r, h => by
    simp only [List.flatMap_cons]
    rw [h x (by simp), flatMap_eq fun y hy => h y (by simp [hy])]
theorem reach_base {k : Nat} : ∀ {n : Nat} {l : List Nat}, k ∈ l → k ∈ reach st n l
  | 0, _, h => h
  | n + 1, _, h => List.mem_append.2 (.inl h)
theorem reach_mono {k : Nat} : ∀ {n : Nat} {l m : List Nat}, (∀ j ∈ l, j ∈ m) → k ∈ reach st n l → k ∈ reach st n m
  | 0, _, _, h, hk => h k hk
  | n + 1, l, m, h, hk => by
    simp only [reach, List.mem_append] at hk ⊢
    rcases hk with hk | hk
    · exact .inl (h k hk)
    · refine .inr (reach_mono (fun j hj => ?_) hk)
      obtain ⟨i, h1, h2⟩ := List.mem_flatMap.1 hj
      exact List.mem_flatMap.2 ⟨i, h i h1, h2⟩
theorem reach_congr : ∀ {n : Nat} {l : List Nat}, (∀ k ∈ reach st1 n l, st1.get k = st2.get k) → reach st2 n l = reach st1 n l
  | 0, _, _ => rfl
  | n + 1, l, h => by
    have hl : ∀ k ∈ l, st1.get k = st2.get k := fun k hk => h k (List.mem_append.2 (.inl hk))
    have he : l.flatMap (leads st2) = l.flatMap (leads st1) := flatMap_eq fun k hk => by unfold leads; rw [hl k hk]
    simp only [reach] at h ⊢
    rw [he, reach_congr fun k hk => h k (List.mem_append.2 (.inr hk))]
theorem opKeys_touch {k : Nat} (h : k ∈ opKeys o s) : k ∈ touch o s := by
  unfold touch
  cases isCall o
  · exact h
  · exact reach_base h
/-- Another state in which the operands are the same. -/
structure Same (o : Oper) (s1 s2 : St) : Prop where
  ev : ∀ x ∈ o.op.operands.toList, s2.ev x = s1.ev x
  st : ∀ k ∈ touch o s1, s1.st.get k = s2.st.get k

theorem Same.keys (h : Same o s1 s2) {x : Operand} (hx : x ∈ o.op.operands.toList) {sl : Slot} (hs : s1.ev x = some sl) : ∀ k ∈ sl.keys, s1.st.get k = s2.st.get k := fun k hk =>
  h.st k (opKeys_touch (by unfold opKeys; exact List.mem_flatMap.2 ⟨x, hx, by rw [hs]; exact hk⟩))
theorem touch_mem {x : Operand} (hx : x ∈ o.op.operands.toList) {sl : Slot} (hs : s.ev x = some sl) {k : Nat} (hk : k ∈ sl.keys) : k ∈ touch o s :=
  opKeys_touch (by unfold opKeys; exact List.mem_flatMap.2 ⟨x, hx, by rw [hs]; exact hk⟩)
theorem Same.one (h : Same o s1 s2) {x : Operand} (hx : x ∈ o.op.operands.toList) : s2.one x = s1.one x := by unfold St.one; rw [h.ev x hx]
theorem Same.int (h : Same o s1 s2) {x : Operand} (hx : x ∈ o.op.operands.toList) : s2.int x = s1.int x := by unfold St.int; rw [h.ev x hx]
theorem Same.bool (h : Same o s1 s2) {x : Operand} (hx : x ∈ o.op.operands.toList) : s2.bool x = s1.bool x := by unfold St.bool; rw [h.ev x hx]
theorem one_ev {x : Operand} {a : AV} (h : s.one x = some a) : s.ev x = some (.one a) := by
  unfold St.one at h
  split at h
  · rename_i b hb; injection h with h; subst h; exact hb
  · cases h
theorem Same.okeys (h : Same o s1 s2) {x : Operand} (hx : x ∈ o.op.operands.toList) {a : AV} (hs : s1.one x = some a) : ∀ k ∈ a.keys, s1.st.get k = s2.st.get k := h.keys hx (one_ev hs)

theorem evs_congr {l : List Operand} (h : ∀ x ∈ l, s2.ev x = s1.ev x) : s2.evs l = s1.evs l := by
  induction l with
  | nil => rfl
  | cons x r ih =>
    simp only [St.evs]
    rw [h x (by simp), ih fun y hy => h y (by simp [hy])]
theorem evs_mem {s : St} : ∀ {l : List Operand} {as : List Slot}, s.evs l = some as → ∀ sl ∈ as, ∃ x ∈ l, s.ev x = some sl
  | [], as, h, sl, hs => by
    simp only [St.evs, Option.some.injEq] at h
    subst h
    cases hs
  | x :: r, as, h, sl, hs => by
    simp only [St.evs] at h
    split at h
    · rename_i a ha
      split at h
      · rename_i l' hl
        injection h with h
        subst h
        rcases List.mem_cons.1 hs with rfl | hs
        · exact ⟨x, by simp, ha⟩
        · obtain ⟨y, h1, h2⟩ := evs_mem hl sl hs
          exact ⟨y, by simp [h1], h2⟩
      · cases h
    · cases h
theorem buildParts_congr {T : TypeId} : ∀ {parts : List (Nat × Operand)} {cs : List AV}, (∀ p ∈ parts, s2.ev p.2 = s1.ev p.2) → buildParts E T s2 parts cs = buildParts E T s1 parts cs
  | [], _, _ => rfl
  | (i, x) :: r, cs, h => by
    simp only [buildParts]
    rw [show s2.ev x = s1.ev x from h (i, x) (by simp)]
    have ih : ∀ cs, buildParts E T s2 r cs = buildParts E T s1 r cs := fun cs => buildParts_congr fun p hp => h p (by simp [hp])
    simp only [ih]
theorem partsAs_congr {e : Ty} : ∀ {parts : List (Nat × Operand)} {n : Nat}, (∀ p ∈ parts, s2.ev p.2 = s1.ev p.2) → (∀ p ∈ parts, ∀ sl, s1.ev p.2 = some sl → ∀ k ∈ sl.keys, s1.st.get k = s2.st.get k) → partsAs s2 e n parts = partsAs s1 e n parts
  | [], _, _, _ => rfl
  | (i, x) :: r, n, h, hk => by
    simp only [partsAs]
    rw [show s2.ev x = s1.ev x from h (i, x) (by simp), partsAs_congr (parts := r) (fun p hp => h p (by simp [hp])) (fun p hp => hk p (by simp [hp]))]
    cases hx : s1.ev x with
    | none => rfl
    | some sl =>
      simp only
      rw [slot_congr (st1 := s1.st) (st2 := s2.st) (hk (i, x) (by simp) sl hx)]
theorem partsRows_congr : ∀ {parts : List (Nat × Operand)}, (∀ p ∈ parts, s2.ev p.2 = s1.ev p.2) → partsRows s2 parts = partsRows s1 parts
  | [], _ => rfl
  | (i, x) :: r, h => by
    simp only [partsRows]
    rw [show s2.ev x = s1.ev x from h (i, x) (by simp), partsRows_congr fun p hp => h p (by simp [hp])]
theorem partsRows_touch : ∀ {parts : List (Nat × Operand)} {k : Nat}, k ∈ partsRows s parts → ∃ p ∈ parts, ∃ sl, s.ev p.2 = some sl ∧ k ∈ sl.keys
  | [], _, h => by cases h
  | (i, x) :: r, k, h => by
    simp only [partsRows, List.mem_append] at h
    rcases h with h | h
    · split at h
      · rename_i sl hs
        exact ⟨(i, x), by simp, sl, hs, Slot.rows_keys h⟩
      · cases h
    · obtain ⟨p, h1, h2⟩ := partsRows_touch h
      exact ⟨p, by simp [h1], h2⟩

theorem bnd_congr {x : Option Operand} {d : Int} (h : ∀ y, x = some y → s2.int y = s1.int y) : bnd s2 x d = bnd s1 x d := by
  cases x with
  | none => rfl
  | some y => simp only [bnd]; rw [h y rfl]
end Go.Ev
