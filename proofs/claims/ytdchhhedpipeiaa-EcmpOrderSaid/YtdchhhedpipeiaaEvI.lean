/- Stores, make, append. -/
import Derived.Test.YtdchhhedpipeiaaEvH
set_option linter.unusedVariables false
set_option linter.unusedSimpArgs false
namespace Go.Ev
open Go.RowKit

variable {P : Program} {E : Env} {w0 : Base} {w : World} {S0 : Nat → Prop} {hv : Hv} {s : St} {a : Act} {key : Nat} {o : Oper}

/-! ### Stores -/
theorem store_run {T : TypeId} {x y : Operand} (ho : o.op = .store T x y) {b off n : Nat} {vs : Array Value} {ty : TypeId} (hx : a.eval x = .pointer (some ⟨b, off, none⟩)) (hw : w.heap[b]? = some (.cells vs ty (0, 0))) (hs : SizeIs P T n) (hn : (a.eval y).cells.size = n)
    (hc : ∀ c ∈ (a.eval y).cells.toList, isCell c) (hle : off + n ≤ vs.size) : (execOp a.eval o).run P w = .ok .skip (putBlock w b (writeAt vs off (a.eval y).cells.toList) ty) := by
  have hr := storeCells_run P b ty off (a.eval y).cells.toList vs 0 w hw hc (by simp; omega)
  simp only [execOp, ho, hx, Instr.storeAt, Instr.sureAddr, storeVar, Sem.run_bind, Sem.run_pure, Result.andThen_ok, run_sizeOf hs]
  rw [if_neg (by simp; omega)]
  simp only [hr, Result.andThen_ok]
  rfl

/-- An object of one's own is written. -/
theorem Post.write (h : Rel w0 S0 hv s a w) {st1 : Store} (hgh : Gh w0 hv st1) (h1 : StRel w S0 hv st1) (hsub : ∀ b, Own hv st1 b → Own hv s.st b) {k : Nat} {ob ob' : Ob} {v : Value} {b : Nat} (hg : st1.get k = some ob) (hk : hv k = some v) (hb : blk ob v = some b) (hb' : blk ob' v = some b) (hpl : ob'.plain = true)
    {vs : Array Value} {ty : TypeId} (ho : StepOk w (All S0 hv st1) (putBlock w b vs ty) (All S0 hv (st1.put k ob')) → ObRep (putBlock w b vs ty) (All S0 hv (st1.put k ob')) hv v ob') :
    Post w0 S0 hv s.st w key (.tup []) (st1.put k ob') hv undef (putBlock w b vs ty) := by
  obtain ⟨r1, r2, r3⟩ := h1.write hg hk hb hb' (w' := putBlock w b vs ty) (fun j hj => putBlock_other hj) ho
  refine ⟨r1, ((StepOk.refl _ _).sub fun b hb => hb.imp id (hsub b)).trans r2, Hv.le_refl _, fun _ _ => rfl, ⟨[], rfl, trivial⟩, fun c hc => h.base c (hsub c (r3 c hc)), below_putBlock h.keep ?_, hgh.set hpl, fun c hc => putBlock_other fun e => h1.out c ⟨k, ob, v, hg, hk, by rw [hb]; exact congrArg some (by first | exact e | exact e.symm)⟩ hc⟩
  exact h.base b (hsub b ⟨k, ob, v, hg, hk, hb⟩)

theorem All2.of_writeAt {R : AV → Value → Prop} {l m : List AV} {vs : Array Value} {us : List Value} {off : Nat} (h1 : All2 R l vs.toList) (h2 : All2 R m us) : All2 R (putCells l off m) (writeAt vs off us).toList := by
  unfold putCells writeAt
  rw [h2.length]
  simpa using ((h1.take off).append h2).append (h1.drop _)

theorem mul_apart {i j n sz c : Nat} (h : i ≠ j) (hc : c < sz) (hn : n ≤ sz) (off : Nat) (hoff : off + n ≤ sz) : i * sz + c < j * sz + off ∨ j * sz + off + n ≤ i * sz + c := by
  rcases Nat.lt_or_gt_of_ne h with hlt | hgt
  · left
    have : (i + 1) * sz ≤ j * sz := Nat.mul_le_mul_right _ hlt
    rw [Nat.succ_mul] at this
    omega
  · right
    have : (j + 1) * sz ≤ i * sz := Nat.mul_le_mul_right _ hgt
    rw [Nat.succ_mul] at this
    omega

theorem cells_isCell {S : Nat → Prop} : ∀ {l : List AV} {m : List Value}, All2 (CRep w S hv) l m → ∀ c ∈ m, isCell c
  | [], [], _, c, hc => by cases hc
  | _ :: _, _ :: _, h, c, hc => by
    rcases List.mem_cons.1 hc with rfl | hc
    · exact h.1.2
    · exact cells_isCell h.2 c hc
  | [], _ :: _, h, _, _ => h.elim
  | _ :: _, [], h, _, _ => h.elim

theorem op_store (ok : EnvOk w0.tr P E) (h : Rel w0 S0 hv s a w) {T : TypeId} {x y : Operand} (ho : o.op = .store T x y) {av : AV} (hx : s.one x = some av) {sl : Slot} (hy : s.ev y = some sl) {st : Store} (he : storeE E T av sl s.st = some st) : Sound P w0 S0 hv s a w key o (.tup []) st := by
  have hr := one_rep h.tmps hx
  have hsr := ev_rep h.tmps hy
  unfold storeE at he
  split at he
  · rename_i k i sz off
    split at he
    · rename_i cs hg
      split at he
      · rename_i n g hsh
        split at he
        · rename_i l hl
          split at he
          · rename_i hle
            injection he with he
            subst he
            obtain ⟨hd, hk, b, vs, ty, rfl, hw, hall⟩ := h.st.objs _ _ hg
            have e1 : a.eval x = .pointer (some ⟨b, off, none⟩) := by
              rcases hr with ⟨b', h1, h2⟩ | ⟨b', o', len, cap, h1, _⟩
              · rw [hk] at h1
                injection h1 with h1
                injection h1 with h1
                injection h1 with h1
                injection h1 with h1
                subst h1
                exact h2
              · rw [hk] at h1
                cases h1
            have hcr := cells_rep hsr hl
            have hlen := hcr.length
            have hall' := hall.length
            simp only [Array.length_toList] at hlen hall'
            refine ⟨hv, undef, _, .inr ⟨store_run ho e1 hw (ok.shape _ _ _ hsh).1 (by omega) ?_ (by omega), rfl⟩, Post.write h h.gh h.st (fun _ h => h) hg hk rfl rfl rfl fun hst => ?_⟩
            · intro c hc
              exact cells_isCell hcr c hc
            · exact ⟨b, _, ty, rfl, putBlock_same (heap_lt hw), ((hall.of_writeAt hcr).mono fun _ _ hc => CRep.step hst (Hv.le_refl _) hc)⟩
          · cases he
        · cases he
      · cases he
    · rename_i e xs hg
      split at he
      · rename_i u hT
        split at he
        · rename_i z hz
          split at he
          · rename_i hcond
            obtain ⟨hsz, hnk⟩ := hcond
            subst hsz
            obtain ⟨z', hup, rfl⟩ := Option.map_eq_some_iff.1 he
            change Sound P w0 S0 hv s a w key o (.tup []) ((fz s.st u.hasSl sl.rows).put k (.row e (xs.set i z')))
            obtain ⟨f1, f2⟩ := fz_rel h.st u.hasSl sl.rows
            obtain ⟨ds, hds, hval⟩ := slot_fz h.st hsr hz (l := sl.rows) (fun _ h => h)
            have hT' := ok.ty _ _ hT
            have hcells : (a.eval y).cells = ds.toArray := by rw [hval]; exact mkVal_cells hds
            have hdl := hds.length
            have hg1 : (fz s.st u.hasSl sl.rows).get k = some (.row e xs) := by
              unfold fz
              split
              · rcases get_freezes sl.rows s.st k with h' | ⟨_, _, _, _, hm⟩
                · rw [h']; exact hg
                · simp only [List.contains_eq_mem, decide_eq_true_eq, Bool.not_eq_true', decide_eq_false_iff_not] at hnk
                  exact absurd hm hnk
              · exact hg
            obtain ⟨hd, hk, hob⟩ := f1.objs _ _ hg1
            rcases hr with ⟨b', h1, h2⟩ | ⟨b', o', len, cap, h1, hi, e1⟩
            · rw [hk] at h1
              injection h1 with h1
              subst h1
              rcases hob with ⟨A, h3, _⟩ | ⟨b, o, cap, vs, ty, h3, _⟩ <;> cases h3
            · rw [hk] at h1
              injection h1 with h1
              subst h1
              rcases hob with ⟨A, h3, rfl⟩ | ⟨b, o1, cap1, vs, ty, h3, h4, h5, hw, h6, hin⟩
              · injection h3 with h3 h4
                omega
              · injection h3 with h3 h3' h3''
                injection h3 with h3
                injection h3 with h3 h7
                subst h3 h3' h3'' h7
                obtain ⟨es, hrep, hcell⟩ := hin i xs[i] (List.getElem?_eq_getElem hi)
                have hgd : xs.getD i e.dflt = xs[i] := by simp [List.getD_eq_getElem?_getD, List.getElem?_eq_getElem hi]
                rw [hgd] at hup
                obtain ⟨u1, u2⟩ := upd_rep hrep hds hup
                have hel := hrep.length
                have hmul : (i + 1) * e.size ≤ cap * e.size := Nat.mul_le_mul_right _ (by omega)
                rw [Nat.succ_mul] at hmul
                have hfit : o' + i * e.size + off + ds.length ≤ vs.size := by omega
                refine ⟨hv, undef, _, .inr ⟨store_run ho e1 hw hT'.size (by rw [hcells]; simpa using hdl) ?_ (by omega), rfl⟩, ?_⟩
                · rw [hcells]
                  exact fun c hc => hds.isCell c (by simpa using hc)
                · have hblk : ∀ ys : List e.den, blk (.row e ys) (.slice (some ⟨b', o', none⟩) xs.length cap) = some b' := fun ys => by simp [blk, h4]
                  refine Post.write h (fz_gh h.gh _ _) f1 f2 hg1 hk (hblk _) (hblk _) rfl fun hst => ?_
                  rw [hcells] at hst ⊢
                  refine .inr ⟨b', o', cap, _, ty, by rw [List.length_set], h4, by rw [List.length_set]; exact h5, putBlock_same (heap_lt hw), ?_, fun j q hq => ?_⟩
                  · simp only [List.toList_toArray]
                    rw [size_writeAt _ _ _ (by omega)]
                    exact h6
                  · by_cases hij : i = j
                    · subst hij
                      rw [List.getElem?_set_self hi] at hq
                      injection hq with hq
                      subst hq
                      refine ⟨_, u1.step hst, fun c d hd' => ?_⟩
                      rw [get_writeAt _ _ _ (by simpa using hfit)]
                      have hclt : c < (es.take off ++ ds ++ es.drop (off + ds.length)).length := (List.getElem?_eq_some_iff.1 hd').1
                      simp only [List.length_append, List.length_take, List.length_drop] at hclt
                      by_cases c1 : c < off
                      · rw [if_pos (by omega)]
                        rw [List.append_assoc, List.getElem?_append_left (by simp; omega), List.getElem?_take, if_pos c1] at hd'
                        exact hcell c d hd'
                      · rw [if_neg (by omega)]
                        by_cases c2 : c < off + ds.length
                        · rw [if_pos (by simp; omega)]
                          rw [List.append_assoc, List.getElem?_append_right (by simp; omega), List.getElem?_append_left (by simp; omega)] at hd'
                          simp only [List.length_take] at hd'
                          rw [Nat.min_eq_left (by omega)] at hd'
                          rw [← hd']
                          congr 1
                          omega
                        · rw [if_neg (by simp; omega)]
                          rw [List.getElem?_append_right (by simp; omega)] at hd'
                          simp only [List.length_append, List.length_take] at hd'
                          rw [Nat.min_eq_left (by omega), List.getElem?_drop] at hd'
                          rw [show off + ds.length + (c - (off + ds.length)) = c by omega] at hd'
                          exact hcell c d hd'
                    · rw [List.getElem?_set_ne hij] at hq
                      obtain ⟨es', hrep', hcell'⟩ := hin j q hq
                      refine ⟨es', hrep'.step hst, fun c d hd' => ?_⟩
                      have hclt : c < es'.length := (List.getElem?_eq_some_iff.1 hd').1
                      have hel' := hrep'.length
                      have := mul_apart (n := ds.length) (c := c) (sz := e.size) (Ne.symm hij) (by omega) (by omega) off (by omega)
                      rw [get_writeAt _ _ _ (by simpa using hfit)]
                      rcases this with h' | h'
                      · rw [if_pos (by omega)]; exact hcell' c d hd'
                      · rw [if_neg (by omega), if_neg (by simp; omega)]; exact hcell' c d hd'
          · cases he
        · cases he
      · cases he
    · cases he
  · cases he

/-! ### make -/
theorem op_makeSlice (ok : EnvOk w0.tr P E) (h : Rel w0 S0 hv s a w) (hk : hv key = none) {T : TypeId} {x y : Operand} (ho : o.op = .makeSlice T x y) {e : Ty} (hT : E.ty T = some (.sl e)) {by_ : Nat} (hby : E.bytes T = some by_) {k k' : IntKind} {n m : Int} (hn : s.int x = some (k, n)) (hm : s.int y = some (k', m))
    (h0 : 0 ≤ n) (h1 : n ≤ m) (h2 : m * by_ ≤ maxBytes) (h3 : m ≤ 9223372036854775807) : Sound P w0 S0 hv s a w key o (.one (.own key)) (s.st.put key (.row e (List.replicate n.toNat e.dflt))) := by
  obtain ⟨_, te, hu, hte, z, hz, hzr⟩ := ok.ty _ _ hT
  obtain ⟨hb1, hb0⟩ := ok.bytes _ _ hby _ hu
  obtain ⟨info, hi, hib⟩ := Option.map_eq_some_iff.1 hb1
  have hsz := hte.size
  have hzl : z.cells.size = e.size := by have := (hzr w (fun _ => False)).length; simpa using this
  have e1 := int_rep h.tmps hn
  have e2 := int_rep h.tmps hm
  obtain ⟨n', rfl⟩ := Int.eq_ofNat_of_zero_le h0
  obtain ⟨m', rfl⟩ := Int.eq_ofNat_of_zero_le (Int.le_trans h0 h1)
  have w1 : IntKind.i64.wrap (n' : Int) = n' := by unfold IntKind.wrap; simp [IntKind.bits, IntKind.signed]; omega
  have w2 : IntKind.i64.wrap (m' : Int) = m' := by unfold IntKind.wrap; simp [IntKind.bits, IntKind.signed]; omega
  have hmb : (by_ : Int) * m' ≤ 281474976710656 := by rw [Int.mul_comm]; unfold maxBytes at h2; omega
  let zero : Array Value := if m' * e.size = 0 then #[] else z.cells
  let cells : Array Value := (Array.range (m' * e.size)).map fun i => zero[i % zero.size]!
  have hcs : cells.size = m' * e.size := by simp [cells]
  have post := Post.row (key := key) h h.gh h.st (fun _ h => h) hk e (List.replicate n' e.dflt) m' cells te (by simp; omega) (by omega) (fun i q hq => by
    have hlt : i < n' := by
      have := (List.getElem?_eq_some_iff.1 hq).1
      simpa using this
    rw [List.getElem?_replicate, if_pos hlt] at hq
    injection hq with hq
    subst hq
    refine ⟨z.cells.toList, hzr _ _, fun j c hj => ?_⟩
    have hjl : j < e.size := by
      have := (List.getElem?_eq_some_iff.1 hj).1
      simp at this
      omega
    have hmul : (i + 1) * e.size ≤ m' * e.size := Nat.mul_le_mul_right _ (by omega)
    rw [Nat.succ_mul] at hmul
    have hne : ¬ m' * e.size = 0 := by omega
    have hmod : (i * e.size + j) % e.size = j := by rw [Nat.mul_comm, Nat.mul_add_mod]; exact Nat.mod_eq_of_lt hjl
    rw [Nat.zero_add]
    simp only [cells, zero, if_neg hne]
    rw [Array.getElem?_map, Array.getElem?_range, if_pos (by omega)]
    simp only [Option.map_some, hzl, hmod]
    rw [← hj]
    simp [getElem!_pos, show j < z.cells.size by omega])
  have hlen : (List.replicate n' e.dflt).length = n' := by simp
  rw [hlen] at post
  refine ⟨_, _, _, .inl ?_, post⟩
  have g1 : ¬ ((m' : Int) < 0) := by omega
  have g2 : ¬ ((by_ : Int) * m' > 2 ^ 48) := by omega
  have g3 : ¬ ((n' : Int) < 0) := by omega
  have g4 : ¬ ((n' : Int) > m') := by omega
  simp only [execOp, ho, e1, e2, Instr.makeSlice, Sem.run_bind, run_underlying hu, Result.andThen_ok, asInt, asIntOf, Sem.run_pure, typeInfo, run_program, hi, hib, w1, w2, g1, g2, g3, g4, decide_false, Bool.or_false, Bool.false_eq_true, if_false, run_askRoom, run_sizeOf hsz, Int.toNat_natCast]
  by_cases hz0 : m' * e.size = 0
  · simp only [hz0, if_true, Sem.run_bind, Sem.run_pure, Result.andThen_ok, newRow, run_newObj]
    simp only [cells, zero, hz0, if_true]
    rfl
  · simp only [hz0, if_false, Sem.run_bind, run_zero hz, Sem.run_pure, Result.andThen_ok, newRow, run_newObj]
    simp only [cells, zero, hz0, if_false]
    rfl
end Go.Ev
