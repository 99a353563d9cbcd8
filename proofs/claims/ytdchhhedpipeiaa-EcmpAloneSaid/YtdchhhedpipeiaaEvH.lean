/- New objects, stores. -/
import Derived.Test.YtdchhhedpipeiaaEvG
set_option linter.unusedVariables false
set_option linter.unusedSimpArgs false
namespace Go.Ev
open Go.RowKit

variable {P : Program} {E : Env} {w0 : Base} {w : World} {S0 : Nat → Prop} {hv : Hv} {s : St} {a : Act} {key : Nat} {o : Oper}

theorem Rep.noSl {w' : World} {S S' : Nat → Prop} : ∀ {t : Ty} {x : t.den} {cs : List Value}, t.hasSl = false → Rep w S t x cs → Rep w' S' t x cs
  | .int _, _, _, _, r => r
  | .bool, _, _, _, r => r
  | .f64, _, _, _, r => r
  | .str, _, _, _, r => r
  | .unit, _, _, _, r => r
  | .one a, x, cs, h, r => Rep.noSl (t := a) h (show Rep w S a x cs from r)
  | .pair a b, _, _, h, r => by
    simp only [Ty.hasSl, Bool.or_eq_false_iff] at h
    obtain ⟨c1, c2, e, h1, h2⟩ := r
    exact ⟨c1, c2, e, Rep.noSl h.1 h1, Rep.noSl h.2 h2⟩
  | .sl _, _, _, h, _ => by cases h

/-- Rows that are frozen if the data hold slices. -/
noncomputable def fz (st : Store) (b : Bool) (l : List Nat) : Store := if b then st.freezes l else st
theorem fz_rel {st : Store} (h : StRel w S0 hv st) (b : Bool) (l : List Nat) : StRel w S0 hv (fz st b l) ∧ ∀ c, Own hv (fz st b l) c → Own hv st c := by
  unfold fz
  cases b with
  | true => exact freezes_rel l h
  | false => exact ⟨h, fun _ h => h⟩
theorem fz_gh {st : Store} (h : Gh w0 hv st) (b : Bool) (l : List Nat) : Gh w0 hv (fz st b l) := by
  cases b
  · exact h
  · exact h.freezes l
theorem slot_fz {st : Store} (h : StRel w S0 hv st) {sl : Slot} {v : Value} (hr : SlotRep w (All S0 hv st) hv sl v) {t : Ty} {x : t.den} (hx : sl.as st t = some x) {l : List Nat} (hl : ∀ k ∈ sl.rows, k ∈ l) :
    ∃ cs, Rep w (All S0 hv (fz st t.hasSl l)) t x cs ∧ v = mkVal t cs := by
  cases ht : t.hasSl with
  | true => exact slot_rep h hr hx (fun b hb => hb.imp id ((fz_rel h true l).2 b)) (frozen_free h l sl.rows hl)
  | false =>
    obtain ⟨cs, h1, h2⟩ := slot_rep h hr hx (T := fun _ => False) (fun _ h => h.elim) (fun _ _ _ _ _ _ _ _ _ h => h)
    exact ⟨cs, h1.noSl ht, h2⟩

/-! ### A row that is new -/
theorem Post.row (h : Rel w0 S0 hv s a w) {st1 : Store} (hg : Gh w0 hv st1) (h1 : StRel w S0 hv st1) (hsub : ∀ b, Own hv st1 b → Own hv s.st b) (hk : hv key = none) (e : Ty) (xs : List e.den) (cap : Nat) (cs : Array Value) (ty : TypeId)
    (hc : xs.length ≤ cap) (hs : cap * e.size ≤ cs.size) (hin : RowIn w (All S0 hv st1) e xs cs 0) :
    Post w0 S0 hv s.st w key (.one (.own key)) (st1.put key (.row e xs)) (hv.put key (.slice (some ⟨w.heap.size, 0, none⟩) xs.length cap)) (.slice (some ⟨w.heap.size, 0, none⟩) xs.length cap) (w.alloc (.cells cs ty)) := by
  refine Post.alloc h hg h1 hsub hk _ _ rfl cs ty (fun b hb => ?_) (fun hst => ?_) ⟨Hv.put_same, trivial⟩
  · simp only [blk] at hb
    split at hb
    · injection hb with hb
      omega
    · cases hb
  · rcases Nat.eq_zero_or_pos cap with h0 | h0
    · subst h0
      have hl : xs.length = 0 := by omega
      exact .inl ⟨some ⟨w.heap.size, 0, none⟩, by rw [hl], List.eq_nil_of_length_eq_zero hl⟩
    · refine .inr ⟨w.heap.size, 0, cap, cs, ty, rfl, h0, hc, heap_push _ _, by omega, fun i x hx => ?_⟩
      obtain ⟨es, hr, hcell⟩ := hin i x hx
      exact ⟨es, hr.step hst, hcell⟩

/-- A variable that is new. -/
theorem Post.cells (h : Rel w0 S0 hv s a w) (hk : hv key = none) (l : List AV) (cs : Array Value) (ty : TypeId) (hr : All2 (CRep w (All S0 hv s.st) hv) l cs.toList) :
    Post w0 S0 hv s.st w key (.one (.ref key 0 0 0)) (s.st.put key (.cells l)) (hv.put key (.pointer (some ⟨w.heap.size, 0, none⟩))) (.pointer (some ⟨w.heap.size, 0, none⟩)) (w.alloc (.cells cs ty)) := by
  refine Post.alloc h h.gh h.st (fun _ h => h) hk _ _ rfl cs ty (fun b hb => ?_) (fun hst => ?_) (.inl ⟨w.heap.size, Hv.put_same, rfl⟩)
  · simp only [blk, Option.some.injEq] at hb
    omega
  · exact ⟨w.heap.size, cs, ty, rfl, heap_push _ _, hr.mono fun _ _ => CRep.step hst (Hv.le_put hk)⟩

theorem op_alloc (ok : EnvOk w0.tr P E) (h : Rel w0 S0 hv s a w) (hk : hv key = none) {T : TypeId} (ho : o.op = .alloc T) {cs : List AV} (hz : E.zero T = some cs) : Sound P w0 S0 hv s a w key o (.one (.ref key 0 0 0)) (s.st.put key (.cells cs)) := by
  obtain ⟨z, hz1, hz2⟩ := ok.zero _ _ hz
  refine ⟨_, _, _, .inl ?_, Post.cells h hk cs z.cells T (hz2 _ _ _)⟩
  simp [execOp, ho, Instr.alloc, run_zero hz1, newVar, newRow]

theorem op_box (h : Rel w0 S0 hv s a w) (hk : hv key = none) {T : TypeId} {x : Operand} (ho : o.op = .box T x) {sl : Slot} (hx : s.ev x = some sl) {cs : List AV} (hc : sl.cells = some cs) : Sound P w0 S0 hv s a w key o (.one (.ref key 0 0 0)) (s.st.put key (.cells cs)) := by
  refine ⟨_, _, _, .inl ?_, Post.cells h hk cs (a.eval x).cells T (cells_rep (ev_rep h.tmps hx) hc)⟩
  simp [execOp, ho, Instr.box, newVar, newRow]

/-! ### Literals -/
theorem fold_writeAt (off : Nat) : ∀ (l : List Value) (j : Nat) (cs : Array Value), off + j + l.length ≤ cs.size → (l.zipIdx j).foldl (fun cs (cj : Value × Nat) => cs.setIfInBounds (off + cj.2) cj.1) cs = writeAt cs (off + j) l
  | [], j, cs, _ => by simp [writeAt_nil]
  | v :: l, j, cs, h => by
    simp only [List.length_cons] at h
    rw [List.zipIdx_cons, List.foldl_cons, fold_writeAt off l (j + 1) _ (by simp; omega), writeAt_cons _ _ _ _ (by omega)]
    rfl

theorem fill_cons {place : Nat → Option (Nat × Nat)} {cs : Array Value} {i off n : Nat} {v : Value} {r : List (Nat × Value)} (hp : place i = some (off, n)) (hn : v.cells.size = n) (hle : off + n ≤ cs.size) :
    Instr.fill place cs ((i, v) :: r) = Instr.fill place (writeAt cs off v.cells.toList) r := by
  subst hn
  have hf : Array.foldl (fun cs x => match x with | (c, j) => cs.setIfInBounds (off + j) c) cs v.cells.zipIdx = writeAt cs off v.cells.toList := by
    rw [← Array.foldl_toList, Array.toList_zipIdx]
    exact fold_writeAt off v.cells.toList 0 cs (by simpa using hle)
  simp only [Instr.fill, hp]
  rw [if_neg (by simp; omega), hf]

theorem putCells_rep {l m : List AV} {vs us : List Value} {off : Nat} {S : Nat → Prop} (h1 : All2 (CRep w S hv) l vs) (h2 : All2 (CRep w S hv) m us) : All2 (CRep w S hv) (putCells l off m) (vs.take off ++ us ++ vs.drop (off + us.length)) := by
  unfold putCells
  rw [h2.length]
  exact ((h1.take off).append h2).append (h1.drop _)

theorem build_fill (ok : EnvOk w0.tr P E) (h : Rel w0 S0 hv s a w) {T : TypeId} {place : Nat → Option (Nat × Nat)} (hpl : ∀ i off n, E.fld T i = some (off, n) → place i = some (off, n)) :
    ∀ (parts : List (Nat × Operand)) (cs l : List AV) (vs : Array Value), All2 (CRep w (All S0 hv s.st) hv) cs vs.toList → buildParts E T s parts cs = some l →
      ∃ us, Instr.fill place vs (parts.map fun p => (p.1, a.eval p.2)) = some us ∧ All2 (CRep w (All S0 hv s.st) hv) l us.toList
  | [], cs, l, vs, hr, he => by
    simp only [buildParts, Option.some.injEq] at he
    subst he
    exact ⟨vs, rfl, hr⟩
  | (i, x) :: r, cs, l, vs, hr, he => by
    simp only [buildParts] at he
    split at he
    · rename_i off n hf
      split at he
      · rename_i sl hsl
        split at he
        · rename_i m hm
          split at he
          · rename_i hle
            have hcr := cells_rep (ev_rep h.tmps hsl) hm
            have hl := hr.length
            have hml := hcr.length
            simp only [Array.length_toList] at hl hml
            have hw := putCells_rep (off := off) hr hcr
            obtain ⟨us, h1, h2⟩ := build_fill ok h hpl r _ l (writeAt vs off (a.eval x).cells.toList) (by simpa [writeAt] using hw) he
            refine ⟨us, ?_, h2⟩
            show Instr.fill place vs ((i, a.eval x) :: r.map fun p => (p.1, a.eval p.2)) = some us
            rw [fill_cons (hpl _ _ _ hf) (by omega) (by omega)]
            exact h1
          · cases he
        · cases he
      · cases he
    · cases he

theorem mapM_ok {α β : Type} (f : α → Sem β) (g : α → β) : ∀ (l : List α), (∀ x ∈ l, (f x).run P w = .ok (g x) w) → (l.mapM f).run P w = .ok (l.map g) w
  | [], _ => rfl
  | x :: r, h => by
    rw [List.mapM_cons]
    simp [h x (by simp), mapM_ok f g r fun y hy => h y (by simp [hy])]

theorem op_build (ok : EnvOk w0.tr P E) (h : Rel w0 S0 hv s a w) {T : TypeId} {parts : Array (Nat × Operand)} (ho : o.op = .build T parts) {cs : List AV} (hz : E.zero T = some cs) {l : List AV} (hb : buildParts E T s parts.toList cs = some l)
    (hT : ∃ fs, P.underlying T = some (.struct fs) ∧ ∀ f ∈ fs.toList, ∃ m, SizeIs P f.type m) : Sound P w0 S0 hv s a w key o (.agg l) s.st := by
  obtain ⟨z, hz1, hz2⟩ := ok.zero _ _ hz
  obtain ⟨fs, hu, hfs⟩ := hT
  let pl : Field → Nat × Nat := fun f => (f.offset, ((P.info? f.type).map (·.size)).getD 0)
  have hpl : ∀ i off n, E.fld T i = some (off, n) → (fs.map pl)[i]? = some (off, n) := fun i off n hf => by
    obtain ⟨_, fs', f, h1, h2, h3, h4⟩ := ok.fld _ _ _ _ hf
    rw [hu] at h1
    injection h1 with h1
    injection h1 with h1
    subst h1
    have h4 : (P.info? f.type).map (·.size) = some n := h4
    simp [h2, pl, h3, h4]
  obtain ⟨us, h1, h2⟩ := build_fill ok h hpl parts.toList cs l z.cells (hz2 _ _ _) hb
  have hmap : (fs.mapM fun f => do pure (f.offset, ← sizeOf f.type) : Sem (Array (Nat × Nat))).run P w = .ok (fs.map pl) w := by
    rw [Array.mapM_eq_mapM_toList, Sem.run_map]
    have := mapM_ok (P := P) (w := w) (fun f : Field => (do pure (f.offset, ← sizeOf f.type) : Sem (Nat × Nat))) pl fs.toList fun f hf => by
      obtain ⟨m, hm⟩ := hfs f hf
      have hm' : (P.info? f.type).map (·.size) = some m := hm
      simp [run_sizeOf hm, pl, hm']
    rw [this]
    simp only [Result.andThen_ok]
    rw [← Array.toList_map]
  refine Sound.quiet h (val := .agg us) ?_ ⟨us.toList, by simp, h2⟩
  have hfill : Instr.fill (fun i => (fs.map pl)[i]?) z.cells (parts.map fun x => (x.1, a.eval x.2)).toList = some us := by
    rw [Array.toList_map]
    exact h1
  simp only [execOp, ho, Instr.build, Sem.run_bind, run_zero hz1, Result.andThen_ok, run_underlying hu, hmap]
  simp only [hfill, Sem.run_pure, Result.andThen_ok]

/-- A literal's row. -/
theorem partsAs_fill {e : Ty} {T : Nat → Prop} (h : Rel w0 S0 hv s a w) : ∀ (parts : List (Nat × Operand)) (n : Nat) (xs : List e.den) (cs : Array Value),
    (∀ p ∈ parts, ∀ sl y, s.ev p.2 = some sl → sl.as s.st e = some y → ∃ ds, Rep w T e y ds ∧ a.eval p.2 = mkVal e ds) →
    partsAs s e n parts = some xs → (n + parts.length) * e.size ≤ cs.size →
    ∃ us, Instr.fill (fun i => some (i * e.size, e.size)) cs (parts.map fun p => (p.1, a.eval p.2)) = some us ∧ us.size = cs.size ∧ (∀ j, j < n * e.size → us[j]? = cs[j]?) ∧ xs.length = parts.length ∧
      ∀ (i : Nat) (x : e.den), xs[i]? = some x → ∃ es, Rep w T e x es ∧ ∀ (j : Nat) (c : Value), es[j]? = some c → us[(n + i) * e.size + j]? = some c
  | [], n, xs, cs, _, he, hle => by
    simp only [partsAs, Option.some.injEq] at he
    subst he
    exact ⟨cs, rfl, rfl, fun _ _ => rfl, rfl, fun i x hx => by simp at hx⟩
  | (i, x) :: r, n, xs, cs, hrep, he, hle => by
    simp only [partsAs] at he
    split at he
    · rename_i hin
      subst hin
      split at he
      · rename_i sl hsl
        split at he
        · rename_i y hy
          split at he
          · rename_i l hl
            injection he with he
            subst he
            obtain ⟨ds, hd, hval⟩ := hrep (i, x) (by simp) sl y hsl hy
            have hdl := hd.length
            have hcells : (a.eval x).cells = ds.toArray := by
              have : a.eval x = mkVal e ds := hval
              rw [this]
              exact mkVal_cells hd
            simp only [List.length_cons] at hle
            have hle1 : i * e.size + e.size ≤ cs.size := by
              have : (i + 1) * e.size ≤ (i + (r.length + 1)) * e.size := Nat.mul_le_mul_right _ (by omega)
              rw [Nat.add_mul, Nat.one_mul] at this
              omega
            have hsz := size_writeAt cs (i * e.size) ds (by omega)
            obtain ⟨us, h1, h2, h3, h4, h5⟩ := partsAs_fill (T := T) h r (i + 1) l (writeAt cs (i * e.size) ds) (fun p hp => hrep p (by simp [hp])) hl (by rw [hsz]; rw [show i + 1 + r.length = i + (r.length + 1) by omega]; exact hle)
            refine ⟨us, ?_, h2.trans hsz, fun j hj => ?_, by simp [h4], fun k z hz => ?_⟩
            · rw [List.map_cons, fill_cons rfl (by rw [hcells]; simpa using hdl) hle1, hcells]
              exact h1
            · rw [h3 j (by rw [Nat.add_mul]; omega), get_writeAt _ _ _ (by omega), if_pos hj]
            · cases k with
              | zero =>
                simp only [List.getElem?_cons_zero, Option.some.injEq] at hz
                subst hz
                refine ⟨ds, hd, fun j c hj => ?_⟩
                have hj' : j < ds.length := (List.getElem?_eq_some_iff.1 hj).1
                have hm : (i + 1) * e.size = i * e.size + e.size := Nat.succ_mul _ _
                simp only [Nat.add_zero]
                rw [h3 _ (by omega), get_writeAt _ _ _ (by omega), if_neg (by simp), if_pos (by simp; omega)]
                simpa using hj
              | succ k =>
                simp only [List.getElem?_cons_succ] at hz
                obtain ⟨es, g1, g2⟩ := h5 k z hz
                refine ⟨es, g1, fun j c hj => ?_⟩
                rw [show i + (k + 1) = i + 1 + k by omega]
                exact g2 j c hj
          · cases he
        · cases he
      · cases he
    · cases he

theorem op_buildSlice (ok : EnvOk w0.tr P E) (h : Rel w0 S0 hv s a w) (hk : hv key = none) {T : TypeId} {len : Nat} {parts : Array (Nat × Operand)} (ho : o.op = .buildSlice T len parts) {e : Ty} (hT : E.ty T = some (.sl e)) {xs : List e.den} (hp : partsAs s e 0 parts.toList = some xs)
    (hlen : parts.size = len) (hle : len * e.size ≤ 16777216) : Sound P w0 S0 hv s a w key o (.one (.own key)) ((fz s.st e.hasSl (partsRows s parts.toList)).put key (.row e xs)) := by
  obtain ⟨_, te, hu, hte, z, hz, hzr⟩ := ok.ty _ _ hT
  have hsz := hte.size
  have hzl : z.cells.size = e.size := by have := (hzr w (fun _ => False)).length; simpa using this
  obtain ⟨f1, f2⟩ := fz_rel h.st e.hasSl (partsRows s parts.toList)
  have hrows : ∀ (l : List (Nat × Operand)) (p : Nat × Operand), p ∈ l → ∀ sl, s.ev p.2 = some sl → ∀ k ∈ sl.rows, k ∈ partsRows s l := by
    intro l
    induction l with
    | nil => intro p hp; cases hp
    | cons q r ih =>
      intro p hp sl hsl k hkr
      simp only [partsRows, List.mem_append]
      rcases List.mem_cons.1 hp with rfl | hp
      · refine .inl ?_
        rw [hsl]
        exact hkr
      · exact .inr (ih p hp sl hsl k hkr)
  let zero : Array Value := if len * e.size = 0 then #[] else z.cells
  let base : Array Value := (Array.range (len * e.size)).map fun i => zero[i % zero.size]!
  have hbase : base.size = len * e.size := by simp [base]
  obtain ⟨us, h1, h2, h3, h4, h5⟩ := partsAs_fill (T := All S0 hv (fz s.st e.hasSl (partsRows s parts.toList))) h parts.toList 0 xs base
    (fun p hp sl y hsl hy => slot_fz h.st (ev_rep h.tmps hsl) hy (hrows _ p hp sl hsl)) hp (by rw [hbase]; simp [hlen])
  have hxl : xs.length = len := by rw [h4, Array.length_toList, hlen]
  have post := Post.row (key := key) h (fz_gh h.gh _ _) f1 f2 hk e xs len us te (by omega) (by omega) (fun i x hx => by
    obtain ⟨es, g1, g2⟩ := h5 i x hx
    exact ⟨es, g1, by simpa using g2⟩)
  rw [hxl] at post
  refine ⟨_, _, _, .inl ?_, post⟩
  have hfill : Instr.fill (fun i => some (i * e.size, e.size)) base (parts.map fun x => (x.1, a.eval x.2)).toList = some us := by
    rw [Array.toList_map]
    exact h1
  have hbig : ¬ (2 ^ 24 < len * e.size) := by omega
  simp only [execOp, ho, Instr.buildSlice, Sem.run_bind, run_underlying hu, Result.andThen_ok, run_sizeOf hsz, gt_iff_lt, hbig, if_false]
  by_cases h0 : len * e.size = 0
  · simp only [base, zero, h0, if_true] at hfill
    simp only [h0, if_true, Sem.run_bind, Sem.run_pure, Result.andThen_ok, hfill, newRow, run_newObj]
    rfl
  · simp only [base, zero, h0, if_false] at hfill
    simp only [h0, if_false, Sem.run_bind, run_zero hz, Sem.run_pure, Result.andThen_ok, hfill, newRow, run_newObj]
    rfl
end Go.Ev
