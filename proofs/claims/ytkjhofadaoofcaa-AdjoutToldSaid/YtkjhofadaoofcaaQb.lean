/- Contracts and laws that the claim needs, packed from several texts. -/
import Derived.Laws.StructEq
import Derived.MapKept
import Derived.Orders
import Derived.Test.YtkjhofadaoofcaaQa
section
set_option linter.unusedVariables false
set_option linter.unusedSimpArgs false
namespace Go.Ev
open Go.RowKit
variable {P : Program} {E : Env} {w0 : Base} {w : World} {S0 : Nat → Prop} {hv : Hv} {s : St} {a : Act} {key : Nat} {o : Oper}
theorem growBy_le (n : Nat) : ∀ (r c : Nat), Builtin.growBy n r c ≤ max c (n + (n + 768) / 4)
  | 0, c => by simp [Builtin.growBy]; omega
  | r + 1, c => by
    simp only [Builtin.growBy]
    split
    · omega
    · have := growBy_le n r (c + (c + 768) / 4)
      omega
theorem nextslicecap_le {n c : Nat} (h : c < n) : Builtin.nextslicecap n c ≤ 2 * n := by
  unfold Builtin.nextslicecap
  split
  · omega
  · split
    · omega
    · have := growBy_le n 4 c
      omega
def SlIn (w : World) (T : Nat → Prop) (e : Ty) (ys : List e.den) (A : Option Addr) : Prop :=
  ∀ (i : Nat) (x : e.den), ys[i]? = some x → ∃ b o es, A = some ⟨b, o, none⟩ ∧ Rep w T e x es ∧ ∀ (j : Nat) (c : Value), es[j]? = some c → w.cell? ⟨b, o + i * e.size + j, none⟩ = some c
theorem slIn_flat {T : Nat → Prop} {e : Ty} {ys : List e.den} {A : Option Addr} {cap : Nat} (H : SlIn w T e ys A) :
    ∃ cs : List Value, cs.length = ys.length * e.size ∧ (∀ (i : Nat) (y : e.den), ys[i]? = some y → ∃ es, Rep w T e y es ∧ ∀ (j : Nat) (c : Value), es[j]? = some c → cs[i * e.size + j]? = some c) ∧ (∀ c ∈ cs, isCell c) ∧
      ∀ w' : World, w'.heap = w.heap → (Builtin.firstCells e.size ys.length (.slice A ys.length cap)).run P w' = .ok cs.toArray w' := by
  by_cases h0 : List.length (α := e.den) ys * e.size = 0
  · refine ⟨[], by simp [h0], fun i y hy => ?_, (fun c hc => by cases hc), ?_⟩
    · obtain ⟨b, o, es, hA, hr, hcell⟩ := H i y hy
      refine ⟨es, hr, fun j c hj => ?_⟩
      have hi : i < ys.length := (List.getElem?_eq_some_iff.1 hy).1
      have hjl := (List.getElem?_eq_some_iff.1 hj).1
      have hl := hr.length
      have hs : e.size = 0 := by
        rcases Nat.mul_eq_zero.1 h0 with h' | h'
        · exact absurd hi (by show ¬ i < List.length (α := e.den) ys; omega)
        · exact h'
      omega
    · intro w' _
      cases A with
      | none => simp [Builtin.firstCells]
      | some ad =>
        simp only [Builtin.firstCells, h0]
        rfl
  · have hn : 0 < List.length (α := e.den) ys := Nat.pos_of_ne_zero fun hz => h0 (by simp [hz])
    have hsz : 0 < e.size := Nat.pos_of_ne_zero fun hz => h0 (by simp [hz])
    obtain ⟨b, o, es0, rfl, _⟩ := H 0 _ (List.getElem?_eq_getElem hn)
    let cs : List Value := (List.range (List.length (α := e.den) ys * e.size)).map fun j => (w.cell? ⟨b, o + j, none⟩).getD undef
    have hcs : ∀ (i : Nat) (y : e.den), (show List e.den from ys)[i]? = some y → ∃ es, Rep w T e y es ∧ ∀ (j : Nat) (c : Value), es[j]? = some c → cs[i * e.size + j]? = some c ∧ w.cell? ⟨b, o + (i * e.size + j), none⟩ = some c := by
      intro i y hy
      obtain ⟨b', o', es, hA, hr, hcell⟩ := H i y hy
      injection hA with hA
      injection hA with hA hA'
      subst hA hA'
      have hi : i < List.length (α := e.den) ys := (List.getElem?_eq_some_iff.1 hy).1
      refine ⟨es, hr, fun j c hj => ?_⟩
      have hjl := (List.getElem?_eq_some_iff.1 hj).1
      have hl := hr.length
      have hmul : (i + 1) * e.size ≤ List.length (α := e.den) ys * e.size := Nat.mul_le_mul_right _ hi
      rw [Nat.succ_mul] at hmul
      have hc' := hcell j c hj
      rw [Nat.add_assoc] at hc'
      refine ⟨?_, hc'⟩
      simp only [cs, List.getElem?_map]
      rw [List.getElem?_range (by omega)]
      simp [hc']
    have hall : ∀ j, j < List.length (α := e.den) ys * e.size → ∃ c, cs[j]? = some c ∧ w.cell? ⟨b, o + j, none⟩ = some c ∧ isCell c := by
      intro j hj
      have hi : j / e.size < List.length (α := e.den) ys := Nat.div_lt_of_lt_mul (by rw [Nat.mul_comm]; exact hj)
      obtain ⟨es, hr, hce⟩ := hcs (j / e.size) _ (List.getElem?_eq_getElem hi)
      have hl := hr.length
      have hm := Nat.mod_lt j hsz
      have hje : j % e.size < es.length := by omega
      have := hce (j % e.size) _ (List.getElem?_eq_getElem hje)
      rw [show j / e.size * e.size + j % e.size = j by rw [Nat.mul_comm]; exact Nat.div_add_mod _ _] at this
      exact ⟨_, this.1, this.2, hr.isCell _ (List.getElem_mem hje)⟩
    have hlen : cs.length = List.length (α := e.den) ys * e.size := by simp [cs]
    refine ⟨cs, hlen, fun i y hy => ?_, fun c hc => ?_, ?_⟩
    · obtain ⟨es, hr, hce⟩ := hcs i y hy
      exact ⟨es, hr, fun j c hj => (hce j c hj).1⟩
    · obtain ⟨j, hj⟩ := List.mem_iff_getElem?.1 hc
      have hjl := (List.getElem?_eq_some_iff.1 hj).1
      obtain ⟨c', h1, _, h2⟩ := hall j (by omega)
      rw [hj] at h1
      injection h1 with h1
      exact h1 ▸ h2
    · intro w' hw'
      simp only [Builtin.firstCells]
      have := run_loadCells_list (P := P) (w := w') ⟨b, o, none⟩ cs fun j v hj => by
        have hsame : w'.cell? ⟨b, o + j, none⟩ = w.cell? ⟨b, o + j, none⟩ := by simp [World.cell?, hw']
        have hjl := (List.getElem?_eq_some_iff.1 hj).1
        obtain ⟨c', h1, h2, _⟩ := hall j (by omega)
        rw [hj] at h1
        injection h1 with h1
        rw [add_none, h1, hsame]
        exact h2
      rw [hlen] at this
      exact this
theorem append_core (ok : EnvOk w0.tr P E) (h : Rel w0 S0 hv s a w) {st1 : Store} (hgh : Gh w0 hv st1) (h1 : StRel w S0 hv st1) (hsub : ∀ b, Own hv st1 b → Own hv s.st b) (hk : hv key = none) {T T' : TypeId} {e e' : Ty} (hT : E.ty T = some (.sl e)) (hT' : E.ty T' = some (.sl e')) {by_ : Nat} (hby : E.bytes T = some by_)
    (k0 : Nat) (hfl0 : ∀ p, st1.get k0 = some p → p.flat = true) {A : Option Addr} {cap : Nat} {zs ys : List e.den} (hmc : zs.length ≤ cap)
    (hsrc : cap = 0 ∨ ∃ b off vs ty ob v0, A = some ⟨b, off, none⟩ ∧ w.heap[b]? = some (.cells vs ty (0, 0)) ∧ off + cap * e.size ≤ vs.size ∧ RowIn w (All S0 hv st1) e zs vs off ∧ st1.get k0 = some ob ∧ hv k0 = some v0 ∧ blk ob v0 = some b)
    {vy : Value} {cs : List Value} (hlen : (Builtin.lenOf vy).run P w = .ok ys.length w) (hcl : cs.length = ys.length * e.size) (hcs : ∀ (i : Nat) (y : e.den), ys[i]? = some y → ∃ es, Rep w (All S0 hv st1) e y es ∧ ∀ (j : Nat) (c : Value), es[j]? = some c → cs[i * e.size + j]? = some c)
    (hcell : ∀ c ∈ cs, isCell c) (hfirst : ∀ w' : World, w'.heap = w.heap → (Builtin.firstCells e.size ys.length vy).run P w' = .ok cs.toArray w') (hmax : (zs.length + ys.length) * by_ ≤ maxBytes) :
    ∃ hv' val w', (∀ t, (Builtin.append_ #[T, T'] t #[.slice A zs.length cap, vy]).run P w = .ok val w') ∧ Post w0 S0 hv s.st w key (.one (.own key)) ((st1.erase k0).put key (.row e (zs ++ ys))) hv' val w' := by
  obtain ⟨_, te, hu, hte, z, hz, hzr⟩ := ok.ty _ _ hT
  obtain ⟨te', hu', _⟩ := (ok.ty _ _ hT').elem
  obtain ⟨hb1, hb0⟩ := ok.bytes _ _ hby _ hu
  obtain ⟨info, hi, hib⟩ := Option.map_eq_some_iff.1 hb1
  have hsz := hte.size
  have hzl : z.cells.size = e.size := by have := (hzr w (fun _ => False)).length; simpa using this
  have hnew : (zs ++ ys).length = zs.length + ys.length := List.length_append
  by_cases hfit : zs.length + ys.length ≤ cap
  ·
    rcases Nat.eq_zero_or_pos cap with h0 | hcpos
    · subst h0
      have hz0 : zs = [] := List.eq_nil_of_length_eq_zero (by omega)
      have hy0 : ys = [] := List.eq_nil_of_length_eq_zero (by omega)
      subst hz0 hy0
      have hc0 : cs = [] := List.eq_nil_of_length_eq_zero (by simpa using hcl)
      subst hc0
      refine ⟨_, .slice A 0 0, w, fun t => ?_, Post.lay h hgh h1 hsub hk k0 hfl0 (.slice A 0 0) (.row e ([] ++ [])) rfl (fun b hb => ?_) (fun _ _ _ => rfl) h.keep (fun _ => .inl ⟨A, rfl, rfl⟩) ⟨Hv.put_same, trivial⟩⟩
      · have hf := hfirst w rfl
        simp only [List.length_nil] at hlen hf
        cases A with
        | none => simp [Builtin.append_, run_underlying hu, run_underlying hu', run_sizeOf hsz, hlen, hf]
        | some ad => simp [Builtin.append_, run_underlying hu, run_underlying hu', run_sizeOf hsz, hlen, hf, storeCells]
      · cases A <;> simp [blk] at hb
    · obtain ⟨b, off, vs, ty, ob, v0, rfl, hw, hvs, hin, hg, hk0, hblk⟩ := hsrc.resolve_left (by omega)
      have hmul : (zs.length + ys.length) * e.size ≤ cap * e.size := Nat.mul_le_mul_right _ hfit
      rw [Nat.add_mul] at hmul
      have hroom : off + zs.length * e.size + cs.length ≤ vs.size := by omega
      have hst := storeCells_run P b ty (off + zs.length * e.size) cs vs 0 w hw hcell (by omega)
      refine ⟨_, .slice (some ⟨b, off, none⟩) (zs.length + ys.length) cap, putBlock w b (writeAt vs (off + zs.length * e.size) cs) ty, fun t => ?_,
        Post.lay h hgh h1 hsub hk k0 hfl0 (.slice (some ⟨b, off, none⟩) (zs.length + ys.length) cap) (.row e (zs ++ ys)) rfl (fun c hc => ?_) (fun c hlt hne => putBlock_other fun e' => ?_) (below_putBlock h.keep (h.base b (hsub b ⟨k0, ob, v0, hg, hk0, (Bk.flat (hfl0 _ hg)).2 hblk⟩))) (fun hst => ?_) ⟨Hv.put_same, trivial⟩⟩
      · have hf := hfirst w rfl
        simp [Builtin.append_, run_underlying hu, run_underlying hu', run_sizeOf hsz, hlen, hf, hfit, add_none, hst]
      · simp only [blk, hcpos, if_true, Option.some.injEq] at hc
        subst hc
        exact .inr ⟨ob, v0, hg, hk0, hblk⟩
      · subst e'
        exact hne (by simp [blk, hcpos])
      · rcases Nat.eq_zero_or_pos cap with hc0 | hc0
        · omega
        · refine .inr ⟨b, off, cap, _, ty, by rw [hnew], hc0, by rw [hnew]; exact hfit, putBlock_same (heap_lt hw), by rw [size_writeAt _ _ _ hroom]; exact hvs, fun i x hx => ?_⟩
          by_cases hi : i < zs.length
          · rw [List.getElem?_append_left hi] at hx
            obtain ⟨es, hr, hc⟩ := hin i x hx
            refine ⟨es, hr.step hst, fun j c hj => ?_⟩
            have hjl := (List.getElem?_eq_some_iff.1 hj).1
            have hl := hr.length
            have hm2 : (i + 1) * e.size ≤ zs.length * e.size := Nat.mul_le_mul_right _ hi
            rw [Nat.succ_mul] at hm2
            rw [get_writeAt _ _ _ hroom, if_pos (by omega)]
            exact hc j c hj
          · rw [List.getElem?_append_right (by omega)] at hx
            obtain ⟨es, hr, hc⟩ := hcs _ x hx
            refine ⟨es, hr.step hst, fun j c hj => ?_⟩
            have := hc j c hj
            have hcj := (List.getElem?_eq_some_iff.1 this).1
            have hm2 : i * e.size = zs.length * e.size + (i - zs.length) * e.size := by rw [← Nat.add_mul]; congr 1; omega
            rw [get_writeAt _ _ _ hroom, if_neg (by omega), if_pos (by omega)]
            rw [← this]
            congr 1
            omega
  ·
    have hneed : cap < zs.length + ys.length := by omega
    have hcapb : Builtin.nextslicecap (zs.length + ys.length) cap * info.bytes ≤ 2 ^ 48 := by
      have h1 : Builtin.nextslicecap (zs.length + ys.length) cap * info.bytes ≤ 2 * (zs.length + ys.length) * info.bytes := Nat.mul_le_mul_right _ (nextslicecap_le hneed)
      rw [Nat.mul_assoc] at h1
      unfold maxBytes at hmax
      rw [hib] at h1 ⊢
      omega
    let q : Question := .appendCap (zs.length + ys.length) cap te
    let newCap := q.cut (w.tape w.drawn q)
    have hnc : zs.length + ys.length ≤ newCap := by simp only [newCap, q, Question.cut]; omega
    obtain ⟨old, hol, hold, hof⟩ : ∃ old : List Value, old.length = zs.length * e.size ∧ (∀ (i : Nat) (x : e.den), zs[i]? = some x → ∃ es, Rep w (All S0 hv st1) e x es ∧ ∀ (j : Nat) (c : Value), es[j]? = some c → old[i * e.size + j]? = some c) ∧
        ∀ w' : World, w'.heap = w.heap → (Builtin.firstCells e.size zs.length (.slice A zs.length cap)).run P w' = .ok old.toArray w' := by
      rcases hsrc with h0 | ⟨b, off, vs, ty, ob, v0, rfl, hw, hvs, hin, hg, hk0, hblk⟩
      · have hz0 : zs = [] := List.eq_nil_of_length_eq_zero (by omega)
        subst hz0
        refine ⟨[], by simp, fun i x hx => by simp at hx, fun w' _ => ?_⟩
        cases A with
        | none => simp [Builtin.firstCells]
        | some ad => simp [Builtin.firstCells, loadCells, loadCellsFrom]
      · have hm2 : zs.length * e.size ≤ cap * e.size := Nat.mul_le_mul_right _ hmc
        refine ⟨(vs.toList.drop off).take (zs.length * e.size), by simp; omega, fun i x hx => ?_, fun w' hw' => ?_⟩
        · obtain ⟨es, hr, hc⟩ := hin i x hx
          refine ⟨es, hr, fun j c hj => ?_⟩
          have hi : i < zs.length := (List.getElem?_eq_some_iff.1 hx).1
          have hjl := (List.getElem?_eq_some_iff.1 hj).1
          have hl := hr.length
          have hm3 : (i + 1) * e.size ≤ zs.length * e.size := Nat.mul_le_mul_right _ hi
          rw [Nat.succ_mul] at hm3
          rw [List.getElem?_take, if_pos (by omega), List.getElem?_drop, Array.getElem?_toList, ← Nat.add_assoc]
          exact hc j c hj
        · simp only [Builtin.firstCells]
          have := run_loadCells_list (P := P) (w := w') ⟨b, off, none⟩ ((vs.toList.drop off).take (zs.length * e.size)) fun j v hj => by
            rw [List.getElem?_take] at hj
            split at hj
            · rw [List.getElem?_drop, Array.getElem?_toList] at hj
              rw [add_none, cell_of (by rw [hw']; exact hw)]
              exact hj
            · cases hj
          rw [show ((vs.toList.drop off).take (zs.length * e.size)).length = zs.length * e.size by simp; omega] at this
          exact this
    let rest : Array Value := Builtin.zeroCells z.cells (newCap - (zs.length + ys.length))
    have hrest : rest.size = (newCap - (zs.length + ys.length)) * e.size := by simp [rest, Builtin.zeroCells, hzl]
    let cells : Array Value := old.toArray ++ cs.toArray ++ rest
    have hcsz : newCap * e.size ≤ cells.size := by
      simp only [cells, Array.size_append, List.size_toArray, hol, hcl, hrest]
      rw [← Nat.add_mul, ← Nat.add_mul]
      exact Nat.mul_le_mul_right _ (by omega)
    have hin2 : RowIn w (All S0 hv st1) e (zs ++ ys) cells 0 := by
      intro i x hx
      by_cases hi' : i < zs.length
      · rw [List.getElem?_append_left hi'] at hx
        obtain ⟨es, hr, hc⟩ := hold i x hx
        refine ⟨es, hr, fun j c hj => ?_⟩
        have := hc j c hj
        have hlt := (List.getElem?_eq_some_iff.1 this).1
        rw [Nat.zero_add]
        simp only [cells]
        rw [Array.append_assoc, Array.getElem?_append_left (by simpa using hlt)]
        simpa using this
      · rw [List.getElem?_append_right (by omega)] at hx
        obtain ⟨es, hr, hc⟩ := hcs _ x hx
        refine ⟨es, hr, fun j c hj => ?_⟩
        have := hc j c hj
        have hlt := (List.getElem?_eq_some_iff.1 this).1
        have hm2 : i * e.size = zs.length * e.size + (i - zs.length) * e.size := by rw [← Nat.add_mul]; congr 1; omega
        rw [Nat.zero_add]
        simp only [cells]
        rw [Array.append_assoc, Array.getElem?_append_right (by simp; omega), Array.getElem?_append_left (by simp; omega)]
        simp only [List.size_toArray, hol, List.getElem?_toArray]
        rw [← this]
        congr 1
        omega
    refine ⟨_, .slice (some ⟨w.heap.size, 0, none⟩) (zs.length + ys.length) newCap, w.drew.alloc (.cells cells te), fun t => ?_,
      Post.lay h hgh h1 hsub hk k0 hfl0 (.slice (some ⟨w.heap.size, 0, none⟩) (zs.length + ys.length) newCap) (.row e (zs ++ ys)) rfl (fun b hb => ?_) (fun b hlt _ => heap_push_lt w.drew _ hlt) (h.keep.drew.alloc h.bn _) (fun hst => ?_) ⟨Hv.put_same, trivial⟩⟩
    · have hf := hfirst w.drew rfl
      have ho := hof w.drew rfl
      have hneed' : ¬ (zs.length + ys.length ≤ cap) := hfit
      have hb0' : info.bytes ≠ 0 := by omega
      have hbig : ¬ (Builtin.nextslicecap (zs.length + ys.length) cap * info.bytes > 2 ^ 48) := by omega
      have hch : (choose (.appendCap (zs.length + ys.length) cap te)).run P w = .ok newCap w.drew := by
        rw [run_choose]
        rfl
      simp only [Builtin.append_, List.getElem?_toArray, List.getElem?_cons_zero, List.getElem?_cons_succ, Sem.run_bind, run_underlying hu, run_underlying hu', run_sizeOf hsz, Result.andThen_ok, Sem.run_pure, Bool.false_eq_true, if_false, hlen, if_neg hneed', typeInfo, run_program, hi, hb0', or_self, and_false, if_neg hbig, hch, run_askRoom, ho, Bool.not_false, if_true, hf, run_zero hz, newRow, run_newObj]
      rfl
    · simp only [blk] at hb
      split at hb
      · injection hb with hb
        omega
      · cases hb
    · rcases Nat.eq_zero_or_pos newCap with hc0 | hc0
      · omega
      · refine .inr ⟨w.heap.size, 0, newCap, cells, te, by rw [hnew], hc0, by rw [hnew]; exact hnc, heap_push w.drew _, by omega, fun i x hx => ?_⟩
        obtain ⟨es, hr, hc⟩ := hin2 i x hx
        exact ⟨es, hr.step hst, hc⟩
end Go.Ev
end
section
set_option linter.unusedVariables false
set_option linter.unusedSimpArgs false
namespace Go.Ev
open Go.RowKit
variable {P : Program} {E : Env} {w0 : Base} {w : World} {S0 : Nat → Prop} {hv : Hv} {s : St} {a : Act} {key : Nat} {o : Oper}
theorem row_in {st : Store} (h : StRel w S0 hv st) {k : Nat} {e : Ty} {xs : List e.den} (hr : st.row k e = some xs) :
    ∃ A cap, hv k = some (.slice A xs.length cap) ∧ SlIn w (All S0 hv st) e xs A := by
  unfold Store.row at hr
  split at hr
  · rename_i e' xs' hg
    split at hr
    · rename_i he
      injection he with he
      subst he
      injection hr with hr
      subst hr
      obtain ⟨v, hv1, ho⟩ := h.objs _ _ hg
      rcases ho with ⟨A, rfl, rfl⟩ | ⟨b, o, cap, vs, ty, rfl, hc, hl, hb, hs, hin⟩
      · exact ⟨A, 0, hv1, fun i x hx => by cases (List.getElem?_eq_some_iff.1 (show ([] : List _)[i]? = some x from hx)).1⟩
      · refine ⟨_, cap, hv1, fun i x hx => ?_⟩
        obtain ⟨es, hr, he⟩ := hin i x hx
        refine ⟨b, o, es, rfl, hr, fun j c hj => ?_⟩
        rw [cell_of hb]
        exact he j c hj
    · cases hr
  · rename_i e' xs' hg
    split at hr
    · rename_i he
      injection he with he
      subst he
      injection hr with hr
      subst hr
      obtain ⟨v, hv1, ho⟩ := h.objs _ _ hg
      obtain ⟨A, cap, he, hl, H⟩ := ho
      injection he with he
      subst he
      refine ⟨A, cap, hv1, fun i x hx => ?_⟩
      obtain ⟨b, o, es, hA, hr, hcell⟩ := H i x hx
      exact ⟨b, o, es, hA, hr, fun j c hj => (hcell j c hj).2⟩
    · cases hr
  · cases hr
theorem src_nf {st : Store} (h : StRel w S0 hv st) {b : AV} {vy : Value} (hr : AVRep w (All S0 hv st) hv b vy) {e : Ty} {ys : List e.den} (hy : b.as st (.sl e) = some ys) :
    ∃ A cap, vy = .slice A ys.length cap ∧ SlIn w (All S0 hv st) e ys A := by
  cases b with
  | pure t' x' =>
    simp only [AV.as] at hy
    split at hy
    · rename_i ht
      injection hy with hy
      subst hy
      obtain ⟨cs, hr, rfl⟩ := hr
      subst ht
      obtain ⟨A, cap, rfl, hl, H⟩ := hr
      refine ⟨A, cap, rfl, fun i x hx => ?_⟩
      obtain ⟨b, o, es, hA, hr, hcell⟩ := H i x hx
      exact ⟨b, o, es, hA, hr, fun j c hj => (hcell j c hj).2⟩
    · cases hy
  | nil =>
    simp only [AV.as] at hy
    injection hy with hy
    subst hy
    exact ⟨none, 0, hr, fun i x hx => by simp at hx⟩
  | own k =>
    simp only [AV.as] at hy
    obtain ⟨A, cap, h1, h2⟩ := row_in h hy
    obtain rfl := Option.some.inj (hr.1.symm.trans h1)
    exact ⟨A, cap, rfl, h2⟩
  | view k sz lo n =>
    simp only [AV.as] at hy
    split at hy
    · rename_i hsz
      subst hsz
      split at hy
      · rename_i xs hxs
        injection hy with hy
        subst hy
        obtain ⟨A, cap, h1, h2⟩ := row_in h hxs
        obtain ⟨A0, len, cap0, A', cap', hk, hlo, hlc, hcap, _, hA, rfl⟩ := hr
        have h3 := Option.some.inj (hk.symm.trans h1)
        injection h3 with e1 e2 e3
        subst e1 e2 e3
        have hlen : ((xs.drop lo).take n).length = n := by simp; omega
        refine ⟨A', cap', by rw [hlen], fun i x hx => ?_⟩
        have hi : i < n := by
          have := (List.getElem?_eq_some_iff.1 hx).1
          omega
        rw [List.getElem?_take, if_pos hi, List.getElem?_drop] at hx
        obtain ⟨b, o, es, rfl, hr, hcell⟩ := h2 (lo + i) x hx
        refine ⟨b, o + lo * e.size, es, hA (by omega) b o rfl, hr, fun j c hj => ?_⟩
        have := hcell j c hj
        rw [Nat.add_mul] at this
        rw [show o + lo * e.size + i * e.size + j = o + (lo * e.size + i * e.size) + j by omega]
        exact this
      · cases hy
    · cases hy
  | _ => simp only [AV.as] at hy; cases hy
theorem src_cells {st : Store} (h : StRel w S0 hv st) {b : AV} {vy : Value} (hr : AVRep w (All S0 hv st) hv b vy) {e : Ty} {ys : List e.den} (hy : b.as st (.sl e) = some ys) :
    ∃ cs : List Value, (Builtin.lenOf vy).run P w = .ok ys.length w ∧ cs.length = ys.length * e.size ∧ (∀ (i : Nat) (y : e.den), ys[i]? = some y → ∃ es, Rep w (All S0 hv st) e y es ∧ ∀ (j : Nat) (c : Value), es[j]? = some c → cs[i * e.size + j]? = some c) ∧
      (∀ c ∈ cs, isCell c) ∧ ∀ w' : World, w'.heap = w.heap → (Builtin.firstCells e.size ys.length vy).run P w' = .ok cs.toArray w' := by
  obtain ⟨A, cap, rfl, H⟩ := src_nf h hr hy
  obtain ⟨cs, h1, h2, h3, h4⟩ := slIn_flat (P := P) (cap := cap) H
  exact ⟨cs, by simp [Builtin.lenOf], h1, h2, h3, h4⟩
theorem get_fz {st : Store} {b : Bool} {l : List Nat} {k : Nat} (h : k ∉ l) : (fz st b l).get k = st.get k := by
  unfold fz
  split
  · rcases get_freezes l st k with h' | ⟨_, _, _, _, h'⟩
    · exact h'
    · exact absurd h' h
  · rfl
theorem wrow_get {st : Store} {k : Nat} {e : Ty} {xs : List e.den} (h : st.wrow k e = some xs) : st.get k = some (.row e xs) := by
  unfold Store.wrow at h
  split at h
  · rename_i e' xs' hg
    split at h
    · rename_i he
      injection he with he
      subst he
      injection h with h
      subst h
      exact hg
    · cases h
  · cases h
theorem op_append (ok : EnvOk w0.tr P E) (h : Rel w0 S0 hv s a w) (hk : hv key = none) {c : Call} (ho : o.op = .call c) (hc : c.callee = .builtin .append) {x y : Operand} (hx : c.args.toList = [x, y]) {T T' : TypeId} (hT : c.argTypes.toList = [T, T'])
    {e e' : Ty} (hty : E.ty T = some (.sl e)) (hty' : E.ty T' = some (.sl e')) {by_ : Nat} (hby : E.bytes T = some by_) {av bv : AV} (hav : s.one x = some av) (hbv : s.one y = some bv) {v : Slot} {st : Store} (he : appendE s.st key e by_ av bv = some (.val true v st)) :
    Sound P w0 S0 hv s a w key o v st := by
  have hargs : c.args = #[x, y] := by rw [← Array.toArray_toList (xs := c.args), hx]
  have htys : c.argTypes = #[T, T'] := by rw [← Array.toArray_toList (xs := c.argTypes), hT]
  have ra := one_rep h.tmps hav
  have rb := one_rep h.tmps hbv
  have run : ∀ val w', (Builtin.append_ #[T, T'] o.type #[a.eval x, a.eval y]).run P w = .ok val w' → (execOp a.eval o).run P w = .ok (.value val) w' := fun val w' h' => by
    simp [execOp, ho, resolve, hc, hargs, htys, invoke, builtin, h']
  unfold appendE at he
  split at he
  · cases he
  · rename_i ys hys
    obtain ⟨cs, c1, c2, c3, c4, c5⟩ := src_cells (P := P) h.st rb hys
    have f1 := h.st
    have f2 : ∀ b, Own hv s.st b → Own hv s.st b := fun _ h => h
    split at he
    · simp only [Option.some.injEq, Eff.val.injEq, decide_eq_true_eq] at he
      obtain ⟨hle, rfl, rfl⟩ := he
      have e1 : a.eval x = .slice none 0 0 := ra
      obtain ⟨hv', val, w', h1, h2⟩ := append_core (A := none) (cap := 0) (zs := []) ok h h.gh f1 f2 hk hty hty' hby key (fun p hp => by rw [f1.fresh hk] at hp; cases hp) (Nat.le_refl _) (.inl rfl) c1 c2 c3 c4 c5 (by simpa using hle)
      rw [erase_none (f1.fresh hk)] at h2
      exact ⟨hv', val, w', .inl (run _ _ (by rw [e1]; exact h1 _)), h2⟩
    · rename_i k
      split at he
      · cases he
      · rename_i hnk
        have hnk' : k ∉ bv.rows := by simpa using hnk
        split at he
        · rename_i xs hxs
          simp only [Option.some.injEq, Eff.val.injEq, decide_eq_true_eq] at he
          obtain ⟨hle, rfl, rfl⟩ := he
          have hg : s.st.get k = some (.row e xs) := wrow_get hxs
          obtain ⟨vk, hk1, hob⟩ := f1.objs _ _ hg
          have e1 := Option.some.inj (ra.1.symm.trans hk1)
          rcases hob with ⟨A, rfl, rfl⟩ | ⟨b, off, cap, vs, ty, rfl, g1, g2, g3, g4, g5⟩
          · obtain ⟨hv', val, w', h1, h2⟩ := append_core (A := A) (cap := 0) (zs := []) ok h h.gh f1 f2 hk hty hty' hby k (fun p hp => by rw [hg] at hp; injection hp with hp; subst hp; rfl) (Nat.le_refl _) (.inl rfl) c1 c2 c3 c4 c5 (by simpa using hle)
            exact ⟨hv', val, w', .inl (run _ _ (by rw [e1]; exact h1 _)), h2⟩
          · obtain ⟨hv', val, w', h1, h2⟩ := append_core (A := some ⟨b, off, none⟩) (cap := cap) (zs := xs) ok h h.gh f1 f2 hk hty hty' hby k (fun p hp => by rw [hg] at hp; injection hp with hp; subst hp; rfl) g2 (.inr ⟨b, off, vs, ty, _, _, rfl, g3, g4, g5, hg, hk1, by simp [blk, g1]⟩) c1 c2 c3 c4 c5 hle
            exact ⟨hv', val, w', .inl (run _ _ (by rw [e1]; exact h1 _)), h2⟩
        · cases he
    · rename_i k sz lo n
      split at he
      · cases he
      · rename_i hnk
        have hnk' : k ∉ bv.rows := by simpa using hnk
        split at he
        · rename_i hsz
          subst hsz
          split at he
          · rename_i xs hxs
            simp only [Option.some.injEq, Eff.val.injEq, decide_eq_true_eq] at he
            obtain ⟨hle, rfl, rfl⟩ := he
            have hg : s.st.get k = some (.row e xs) := wrow_get hxs
            obtain ⟨vk, hk1, hob⟩ := f1.objs _ _ hg
            obtain ⟨A, len, cap, A', cap', hk2, q1, q2, q3, q4, q5, e1⟩ := ra
            rw [hk1] at hk2
            injection hk2 with hk2
            subst hk2
            have hlen : len = xs.length := by
              rcases hob with ⟨B, h', rfl⟩ | ⟨b, off, cap1, vs, ty, h', _⟩
              · injection h' with _ h' _
              · injection h' with _ h' _
            subst hlen
            have hzl : ((xs.drop lo).take n).length = n := by simp; omega
            have hfin : ∀ hsrc, ∃ hv' val w', (∀ t, (Builtin.append_ #[T, T'] t #[.slice A' ((xs.drop lo).take n).length cap', a.eval y]).run P w = .ok val w') ∧ Post w0 S0 hv s.st w key (.one (.own key)) ((s.st.erase k).put key (.row e ((xs.drop lo).take n ++ ys))) hv' val w' :=
              fun hsrc => append_core (A := A') (cap := cap') (zs := (xs.drop lo).take n) ok h h.gh f1 f2 hk hty hty' hby k (fun p hp => by rw [hg] at hp; injection hp with hp; subst hp; rfl) (by rw [hzl]; omega) hsrc c1 c2 c3 c4 c5 (by rw [hzl]; exact hle)
            have hsrc : cap' = 0 ∨ ∃ b off vs ty ob v0, A' = some ⟨b, off, none⟩ ∧ w.heap[b]? = some (.cells vs ty (0, 0)) ∧ off + cap' * e.size ≤ vs.size ∧ RowIn w (All S0 hv s.st) e ((xs.drop lo).take n) vs off ∧ s.st.get k = some ob ∧ hv k = some v0 ∧ blk ob v0 = some b := by
              rcases Nat.eq_zero_or_pos cap' with h0 | h0
              · exact .inl h0
              · rcases hob with ⟨B, h', hxs0⟩ | ⟨b, off, cap1, vs, ty, h', g1, g2, g3, g4, g5⟩
                · injection h' with _ _ h'
                  omega
                · injection h' with hA hl hcp
                  subst hA hcp
                  refine .inr ⟨b, off + lo * e.size, vs, ty, _, _, q5 h0 b off rfl, g3, ?_, ?_, hg, hk1, by simp [blk, g1]⟩
                  · have : lo * e.size + cap' * e.size = cap * e.size := by rw [← Nat.add_mul]; congr 1; omega
                    omega
                  · intro i z hz
                    have hi : i < n := by
                      have := (List.getElem?_eq_some_iff.1 hz).1
                      omega
                    rw [List.getElem?_take, if_pos hi, List.getElem?_drop] at hz
                    obtain ⟨es, r1, r2⟩ := g5 _ z hz
                    refine ⟨es, r1, fun j d hj => ?_⟩
                    have := r2 j d hj
                    rw [Nat.add_mul] at this
                    rw [← this]
                    congr 1
                    omega
            obtain ⟨hv', val, w', h1, h2⟩ := hfin hsrc
            rw [hzl] at h1
            exact ⟨hv', val, w', .inl (run _ _ (by rw [e1]; exact h1 _)), h2⟩
          · cases he
        · cases he
    · cases he
theorem get_resStore : ∀ (outs : List OT) (r : OTup outs) (key : Nat) (st : Store) (j : Nat), (resStore outs r key st).get j = if key ≤ j ∧ j < key + freshes outs then (resStore outs r 0 []).get (j - key) else st.get j
  | [], _, key, st, j => by
    rw [if_neg (by simp only [freshes]; omega)]
    rfl
  | .pure t :: r, x, key, st, j => get_resStore r x.2 key st j
  | .fresh t :: r, x, key, st, j => by
    have hf : freshes (.fresh t :: r) = freshes r + 1 := rfl
    simp only [resStore]
    rw [get_resStore r x.2 (key + 1), get_put]
    by_cases h1 : key + 1 ≤ j ∧ j < key + 1 + freshes r
    · rw [if_pos h1, if_pos (by omega), get_resStore r x.2 (0 + 1), if_pos (by omega), show j - (key + 1) = j - key - (0 + 1) by omega]
    · rw [if_neg h1]
      by_cases h2 : j = key
      · subst h2
        rw [if_pos rfl, if_pos (by omega), get_resStore r x.2 (0 + 1), if_neg (by omega), get_put, if_pos (by omega)]
      · rw [if_neg h2, if_neg (by omega)]
  | .deep d :: r, x, key, st, j => by
    have hf : freshes (.deep d :: r) = freshes r + 1 := rfl
    simp only [resStore]
    rw [get_resStore r x.2 (key + 1), get_put]
    by_cases h1 : key + 1 ≤ j ∧ j < key + 1 + freshes r
    · rw [if_pos h1, if_pos (by omega), get_resStore r x.2 (0 + 1), if_pos (by omega), show j - (key + 1) = j - key - (0 + 1) by omega]
    · rw [if_neg h1]
      by_cases h2 : j = key
      · subst h2
        rw [if_pos rfl, if_pos (by omega), get_resStore r x.2 (0 + 1), if_neg (by omega), get_put, if_pos (by omega)]
      · rw [if_neg h2, if_neg (by omega)]
theorem ptr_rep {S S' : Nat → Prop} {hv hv' : Hv} {w w' : World} {d : DT} {k k' : Nat} (hh : ∀ u, hv k = some u → hv' k' = some u) {v : Value} (h : AVRep w S hv (d.ptr k) v) : AVRep w' S' hv' (d.ptr k') v := by
  unfold DT.ptr at h ⊢
  cases hb : d.isBox with
  | false =>
    rw [hb] at h
    exact ⟨hh _ h.1, h.2⟩
  | true =>
    rw [hb] at h
    rcases h with ⟨b, h1, h2⟩ | ⟨b, o, len, cap, h1, h2⟩
    · exact .inl ⟨b, hh _ h1, h2⟩
    · exact .inr ⟨b, o, len, cap, hh _ h1, h2⟩
theorem resStore_row : ∀ (outs : List OT) (r : OTup outs) (key : Nat) (st : Store) (j : Nat) (ob : Ob), (resStore outs r key st).get j = some ob → st.get j = some ob ∨ (∃ t xs, ob = .row t xs ∧ (outsHold outs = false → t.hasSl = false)) ∨ ∃ d x, ob = .deep d x ∧ outsHold outs = true
  | [], _, _, _, _, _, h => .inl h
  | .pure t :: r, x, key, st, j, ob, h => by
    rcases resStore_row r x.2 key st j ob h with h' | ⟨t', xs, h1, h2⟩ | ⟨d, y, h1, h2⟩
    · exact .inl h'
    · exact .inr (.inl ⟨t', xs, h1, fun hn => h2 (by simp only [outsHold, Bool.or_eq_false_iff] at hn; exact hn.2)⟩)
    · exact .inr (.inr ⟨d, y, h1, by simp only [outsHold, h2, Bool.or_true]⟩)
  | .fresh t :: r, x, key, st, j, ob, h => by
    rcases resStore_row r x.2 (key + 1) _ j ob h with h' | ⟨t', xs, h1, h2⟩ | ⟨d, y, h1, h2⟩
    · rw [get_put] at h'
      split at h'
      · injection h' with h'
        exact .inr (.inl ⟨t, x.1, h'.symm, fun hn => by simp only [outsHold, Bool.or_eq_false_iff] at hn; exact hn.1⟩)
      · exact .inl h'
    · exact .inr (.inl ⟨t', xs, h1, fun hn => h2 (by simp only [outsHold, Bool.or_eq_false_iff] at hn; exact hn.2)⟩)
    · exact .inr (.inr ⟨d, y, h1, by simp only [outsHold, h2, Bool.or_true]⟩)
  | .deep t :: r, x, key, st, j, ob, h => by
    rcases resStore_row r x.2 (key + 1) _ j ob h with h' | ⟨t', xs, h1, h2⟩ | ⟨d, y, h1, h2⟩
    · rw [get_put] at h'
      split at h'
      · injection h' with h'
        exact .inr (.inr ⟨t, x.1, h'.symm, rfl⟩)
      · exact .inl h'
    · exact .inr (.inl ⟨t', xs, h1, fun hn => by cases hn⟩)
    · exact .inr (.inr ⟨d, y, h1, rfl⟩)
theorem args_rep {S T : Nat → Prop} {st : Store} (h : StRel w S0 hv st) (hT : ∀ b, T b → All S0 hv st b) : ∀ {ts : List Ty} {as : List Slot} {vs : List Value} {x : Tup ts}, All2 (SlotRep w (All S0 hv st) hv) as vs → argsAs st ts as = some x → Free hv st (as.flatMap Slot.rows) T → ArgsRep w T ts x vs
  | [], [], [], _, _, _, _ => trivial
  | [], [], _ :: _, _, h, _, _ => h.elim
  | t :: ts, a :: as, v :: vs, x, hr, hx, hf => by
    simp only [argsAs] at hx
    split at hx
    · rename_i y hy
      split at hx
      · rename_i r hr'
        injection hx with hx
        subst hx
        exact ⟨slot_rep h hr.1 hy hT (hf.sub fun k hk => by simp; exact .inl hk), args_rep (S := S) h hT hr.2 hr' (hf.sub fun k hk => by simp at hk ⊢; exact .inr hk)⟩
      · cases hx
    · cases hx
  | t :: ts, a :: as, [], _, h, _, _ => h.elim
  | [], _ :: _, _, _, _, hx, _ => by simp [argsAs] at hx
  | _ :: _, [], _, _, _, hx, _ => by simp [argsAs] at hx
theorem args_repC {S : Nat → Prop} {st : Store} (h : StRel w S0 hv st) : ∀ {ts : List Ty} {as : List Slot} {vs : List Value} {x : Tup ts}, All2 (SlotRep w (All S0 hv st) hv) as vs → argsAsC st ts as = some x → ArgsRep w (fun _ => False) ts x vs
  | [], [], [], _, _, _ => trivial
  | [], [], _ :: _, _, h, _ => h.elim
  | t :: ts, a :: as, v :: vs, x, hr, hx => by
    simp only [argsAsC] at hx
    split at hx
    · rename_i y hy
      split at hx
      · rename_i r hr'
        injection hx with hx
        subst hx
        exact ⟨slotC_rep h hr.1 hy, args_repC (S := S) h hr.2 hr'⟩
      · cases hx
    · cases hx
  | t :: ts, a :: as, [], _, h, _ => h.elim
  | [], _ :: _, _, _, _, hx => by simp [argsAsC] at hx
  | _ :: _, [], _, _, _, hx => by simp [argsAsC] at hx
theorem slotOf_rep {S : Nat → Prop} {l : List AV} {vs : List Value} (h : All2 (AVRep w S hv) l vs) : SlotRep w S hv (slotOf l) (retOf vs) := by
  match l, vs, h with
  | [], [], _ => exact ⟨[], rfl, trivial⟩
  | [a], [v], h => exact h.1
  | a :: b :: r, v :: u :: m, h => exact ⟨v :: u :: m, rfl, h⟩
theorem Post.results (h : Rel w0 S0 hv s a w) {st1 : Store} (hg : Gh w0 hv st1) (h1 : StRel w S0 hv st1) (hsub : ∀ b, Own hv st1 b → Own hv s.st b) (hk : ∀ j, j < 16 → hv (key + j) = none) {outs : List OT} (hf : freshes outs ≤ 4) {r : OTup outs} {v : Value} {w' : World} (Sc : Nat → Prop)
    (hSc : outsHold outs = true → ∀ b, All S0 hv st1 b → Sc b) (hr : ResRep w.heap.size w' Sc outs r v) (hb : Below w0.tr w.heap.size w w') :
    ∃ hv', Post w0 S0 hv s.st w key (slotOf (resAVs outs r key)) (resStore outs r key st1) hv' v w' := by
  obtain ⟨hvr, vs, r1, r2, rfl, r3⟩ := hr
  obtain ⟨hv', hin, hout, hinF, houtF⟩ : ∃ hv' : Hv, (∀ k, k < freshes outs → hv' (key + k) = hvr k) ∧ (∀ k, ¬ (key ≤ k ∧ k < key + freshes outs) → hv' k = hv k) ∧ (∀ k, k < freshes outs → hv'.ft (key + k) = hvr.ft k) ∧ (∀ k, ¬ (key ≤ k ∧ k < key + freshes outs) → hv'.ft k = hv.ft k) :=
    ⟨⟨fun k => if key ≤ k ∧ k < key + freshes outs then hvr (k - key) else hv k, fun k => if key ≤ k ∧ k < key + freshes outs then hvr.ft (k - key) else hv.ft k⟩,
      fun k hk' => by simp only []; rw [if_pos (by omega), Nat.add_sub_cancel_left], fun k hk' => if_neg hk', fun k hk' => by simp only []; rw [if_pos (by omega), Nat.add_sub_cancel_left], fun k hk' => if_neg hk'⟩
  have hle : hv.le hv' := fun k u hu => by
    by_cases hk' : key ≤ k ∧ k < key + freshes outs
    · have := hk (k - key) (by omega)
      rw [show key + (k - key) = k by omega, hu] at this
      cases this
    · rw [hout k hk']; exact hu
  have hres : ∀ j ob, (resStore outs r 0 []).get j = some ob → j < freshes outs := fun j ob hj => by
    rw [get_resStore] at hj
    split at hj
    · omega
    · cases hj
  have hget : ∀ j ob, (resStore outs r key st1).get j = some ob → (∃ i, i < freshes outs ∧ j = key + i ∧ (resStore outs r 0 []).get i = some ob) ∨ (¬ (key ≤ j ∧ j < key + freshes outs) ∧ st1.get j = some ob) := fun j ob hj => by
    rw [get_resStore] at hj
    split at hj
    · exact .inl ⟨j - key, by omega, by omega, hj⟩
    · rename_i hn
      exact .inr ⟨hn, hj⟩
  have hown : ∀ b, Own hv' (resStore outs r key st1) b → Own hvr (resStore outs r 0 []) b ∨ Own hv st1 b := by
    rintro b ⟨j, ob, u, g1, g2, g3⟩
    rcases hget j ob g1 with ⟨i, hi, rfl, hg⟩ | ⟨hn, hg⟩
    · rw [hin i hi] at g2
      rw [hinF i hi] at g3
      exact .inl ⟨i, ob, u, hg, g2, g3⟩
    · rw [hout j hn] at g2
      rw [houtF j hn] at g3
      exact .inr ⟨j, ob, u, hg, g2, g3⟩
  have hlt1 : ∀ b, Own hv st1 b → b < w.heap.size := by
    rintro b ⟨j, ob, u, g1, g2, g3⟩
    exact h1.blk_lt g1 g2 g3
  have hstep : StepOk w (All S0 hv st1) w' (All S0 hv' (resStore outs r key st1)) := by
    intro b hn hlt
    refine ⟨fun hb' => ?_, hb.block b hlt⟩
    rcases hb' with hb' | hb'
    · exact hn (.inl hb')
    · rcases hown b hb' with h' | h'
      · have := r3 b h'
        omega
      · exact hn (.inr h')
  have hsame : outsHold outs = true → StepOk w' (All Sc hvr (resStore outs r 0 [])) w' (All S0 hv' (resStore outs r key st1)) := fun ht => (StepOk.refl _ _).sub fun b hb' => by
    rcases hb' with hb' | hb'
    · exact .inl (hSc ht b (.inl hb'))
    · rcases hown b hb' with h' | h'
      · exact .inr h'
      · exact .inl (hSc ht b (.inr h'))
  refine ⟨hv', h1.change hstep hle (fun j ob hj => ?_) (fun j1 o1 v1 j2 o2 v2 b g1 g2 g3 g4 g5 g6 => ?_) (fun b hbo h0 => ?_) (h1.names hle (fun j i n hj => ?_) fun j d x hj => ?_), ((StepOk.refl _ _).sub fun b hb => hb.imp id (hsub b)).trans hstep, hle, fun k hk' => hout k (by omega), ?_, fun b hbo => ?_, h.keep.trans (hb.mono h.bn), ?_, fun b hb0 => hb.block b (Nat.lt_of_lt_of_le (h.s0 b hb0) h.keep.size)⟩
  · rcases hget j ob hj with ⟨i, hi, rfl, hg⟩ | ⟨hn, hg⟩
    · obtain ⟨u, hu, hob⟩ := r1.objs i ob hg
      rcases resStore_row outs r 0 [] i ob hg with h' | ⟨t, xs, rfl, hns⟩ | ⟨d, y, rfl, hns⟩
      · cases h'
      rotate_left
      · obtain ⟨q1, q2⟩ := r1.deep i d y u hg hu
        refine .inr ⟨u, (hin i hi).trans hu, hob, fun d' x' e => ?_⟩
        injection e with e1 e2
        subst e1
        have e2 := eq_of_heq e2
        subst e2
        rw [hinF i hi]
        exact ⟨q1.step (hsame hns) fun _ _ => rfl, q2⟩
      · refine .inr ⟨u, (hin i hi).trans hu, ?_, fun d x e => by cases e⟩
        rcases hob with q | ⟨b, off, cap, cells, ty, rfl, q1, q2, q3, q4, q5⟩
        · exact .inl q
        · refine .inr ⟨b, off, cap, cells, ty, rfl, q1, q2, q3, q4, fun i x hx => ?_⟩
          obtain ⟨es, p1, p2⟩ := q5 i x hx
          refine ⟨es, ?_, p2⟩
          cases ht : outsHold outs with
          | true => exact p1.step (hsame ht)
          | false => exact p1.noSl (hns ht)
    · exact .inl ⟨hg, houtF j hn, fun u b hu hbl => hb.block b (h1.blk_lt hg hu hbl)⟩
  · rcases hget j1 o1 g1 with ⟨i1, hi1, rfl, hg1⟩ | ⟨hn1, hg1⟩
    · rw [hin i1 hi1] at g2
      rw [hinF i1 hi1] at g3
      rcases hget j2 o2 g4 with ⟨i2, hi2, rfl, hg2⟩ | ⟨hn2, hg2⟩
      · rw [hin i2 hi2] at g5
        rw [hinF i2 hi2] at g6
        rw [r1.inj _ _ _ _ _ _ _ hg1 g2 g3 hg2 g5 g6]
      · rw [hout j2 hn2] at g5
        rw [houtF j2 hn2] at g6
        have q1 := r3 b ⟨i1, o1, v1, hg1, g2, g3⟩
        have q2 := h1.blk_lt hg2 g5 g6
        omega
    · rw [hout j1 hn1] at g2
      rw [houtF j1 hn1] at g3
      rcases hget j2 o2 g4 with ⟨i2, hi2, rfl, hg2⟩ | ⟨hn2, hg2⟩
      · rw [hin i2 hi2] at g5
        rw [hinF i2 hi2] at g6
        have q1 := r3 b ⟨i2, o2, v2, hg2, g5, g6⟩
        have q2 := h1.blk_lt hg1 g2 g3
        omega
      · rw [hout j2 hn2] at g5
        rw [houtF j2 hn2] at g6
        exact h1.inj _ _ _ _ _ _ _ hg1 g2 g3 hg2 g5 g6
  · have hs0 := Nat.lt_of_lt_of_le (h.s0 b h0) h.keep.size
    rcases hown b hbo with h' | h'
    · have := r3 b h'
      omega
    · exact h1.out b h' h0
  · rcases hget j _ hj with ⟨i', hi, rfl, hg⟩ | ⟨hn, hg⟩
    · rcases resStore_row outs r 0 [] i' _ hg with h' | ⟨t, xs, h', _⟩ | ⟨t, xs, h', _⟩ <;> cases h'
    · exact hg
  · obtain ⟨v, hv1, _⟩ := h1.objs _ _ hj
    have hn : ¬ (key ≤ j ∧ j < key + freshes outs) := fun hn => by
      have := hk (j - key) (by omega)
      rw [show key + (j - key) = j by omega, hv1] at this
      cases this
    refine ⟨?_, houtF j hn, fun u b hu hb' => hb.block b (h1.bk_lt hj hu hb')⟩
    rw [get_resStore, if_neg hn]
    exact hj
  · apply slotOf_rep
    have hh : ∀ k u, hvr k = some u → hv' (key + k) = some u ∨ ¬ k < freshes outs := fun k u hu => by
      by_cases hk' : k < freshes outs
      · exact .inl ((hin k hk').trans hu)
      · exact .inr hk'
    have key2 : ∀ (os : List OT) (x : OTup os) (d : Nat) (us : List Value), d + freshes os ≤ freshes outs → All2 (AVRep w' (All Sc hvr (resStore outs r 0 [])) hvr) (resAVs os x d) us → (outsHold outs = true ∨ outsHold os = false) → All2 (AVRep w' (All S0 hv' (resStore outs r key st1)) hv') (resAVs os x (key + d)) us := by
      intro os
      induction os with
      | nil => intro x d us _ hu _; cases us <;> first | trivial | exact hu.elim
      | cons ot os ih =>
        intro x d us hd hu hho
        cases us with
        | nil => cases ot <;> exact hu.elim
        | cons u us =>
          cases ot with
          | pure t =>
            obtain ⟨⟨cs, p1, p2⟩, p3⟩ := hu
            refine ⟨⟨cs, ?_, p2⟩, ih x.2 d us (by simpa [freshes] using hd) p3 (hho.imp id fun hn => by simp only [outsHold, Bool.or_eq_false_iff] at hn; exact hn.2)⟩
            rcases hho with ht | hn
            · exact p1.step (hsame ht)
            · simp only [outsHold, Bool.or_eq_false_iff] at hn
              exact p1.noSl hn.1
          | fresh t =>
            obtain ⟨p1, p3⟩ := hu
            simp only [freshes] at hd
            exact ⟨⟨(hin d (by omega)).trans p1.1, p1.2⟩, ih x.2 (d + 1) us (by omega) p3 (hho.imp id fun hn => by simp only [outsHold, Bool.or_eq_false_iff] at hn; exact hn.2)⟩
          | deep t =>
            obtain ⟨p1, p3⟩ := hu
            simp only [freshes] at hd
            exact ⟨ptr_rep (fun u hu => (hin d (by omega)).trans hu) p1, ih x.2 (d + 1) us (by omega) p3 (hho.imp id fun hn => by cases hn)⟩
    exact key2 outs r 0 vs (by omega) r2 (by cases outsHold outs <;> simp)
  · rcases hown b hbo with h' | h'
    · exact Nat.le_trans h.bn (r3 b h')
    · exact h.base b (hsub b h')
  · intro j sl hj
    rcases hget j _ hj with ⟨i, hi, rfl, hg'⟩ | ⟨hn, hg'⟩
    · rcases resStore_row outs r 0 [] i _ hg' with h' | ⟨t, xs, h', _⟩ | ⟨t, xs, h', _⟩
      · cases h'
      · cases h'
      · cases h'
    · rw [hout j hn]
      exact hg j sl hg'
theorem op_call (ok : EnvOk w0.tr P E) (h : Rel w0 S0 hv s a w) (hk : ∀ j, j < 16 → hv (key + j) = none) {c : Call} (ho : o.op = .call c) {f : FuncId} (hc : c.callee = .value (.func f)) {sp : Spec} (hsp : E.call f = some sp) {as : List Slot} (has : s.evs c.args.toList = some as)
    {x : Tup sp.ins} (hx : (bif outsHold sp.outs then argsAs s.st sp.ins as else argsAsC s.st sp.ins as) = some x) (hf : freshes sp.outs ≤ 4) {r : OTup sp.outs} (hr : sp.F x = some r) {K : Act → World → Prop} {Q : Exit → Act → World → Prop}
    (hK : ∀ hv' val w', Post w0 S0 hv s.st w key (slotOf (resAVs sp.outs r key)) (resStore sp.outs r key (fz s.st (outsHold sp.outs) (as.flatMap Slot.rows))) hv' val w' → K (a.put o.dst val) w') : o.wp P a w K Q := by
  obtain ⟨hent, hpure⟩ := ok.call _ _ hsp
  have hev := evs_rep h.tmps has
  have hrun : (execOp a.eval o).run P w = .ok (.enter f (c.args.toList.map a.eval).toArray) w := by
    have hargs : c.args.map a.eval = (c.args.toList.map a.eval).toArray := by rw [← Array.toList_map]
    simp [execOp, ho, resolve, hc, Act.eval, Deferred.ofValue, invoke, hargs]
    exact hent _ _
  obtain ⟨f1, f2⟩ := fz_rel h.st (outsHold sp.outs) (as.flatMap Slot.rows)
  have hs0 : ∀ b, S0 b → b < w.heap.size := fun b hb => Nat.lt_of_lt_of_le (h.s0 b hb) h.keep.size
  unfold Oper.wp
  rw [hrun]
  show Calls P f _ w _
  cases ht : outsHold sp.outs with
  | true =>
    rw [ht] at hK f1 f2 hx
    simp only [cond_true] at hx
    have hargs : ArgsRep w (All S0 hv (fz s.st true (as.flatMap Slot.rows))) sp.ins x (c.args.toList.map a.eval) := args_rep (S := S0) h.st (fun b hb => hb.imp id (f2 b)) hev hx (frozen_free h.st _ _ fun _ h => h)
    refine (hpure x r hr w (All S0 hv (fz s.st true (as.flatMap Slot.rows))) _ (fun b hb => ?_) hargs).mono ?_
    · rcases hb with hb | ⟨j, ob, u, g1, g2, g3⟩
      · exact hs0 b hb
      · exact f1.blk_lt g1 g2 g3
    · rintro e w' ⟨v, rfl, hres, hbel⟩
      obtain ⟨hv', hp⟩ := Post.results h (fz_gh h.gh _ _) f1 f2 hk hf _ (fun _ _ hb => hb) hres hbel
      exact hK _ _ _ hp
  | false =>
    rw [ht] at hK f1 f2 hx
    simp only [cond_false] at hx
    have hargs : ArgsRep w (fun _ => False) sp.ins x (c.args.toList.map a.eval) := args_repC (S := S0) h.st hev hx
    refine (hpure x r hr w (fun _ => False) _ (fun _ h => h.elim) hargs).mono ?_
    rintro e w' ⟨v, rfl, hres, hbel⟩
    obtain ⟨hv', hp⟩ := Post.results h (fz_gh h.gh _ _) f1 f2 hk hf _ (fun hn => by rw [ht] at hn; cases hn) hres hbel
    exact hK _ _ _ hp
end Go.Ev
end
section
set_option linter.unusedVariables false
set_option linter.unusedSimpArgs false
namespace Go.Ev
open Go.RowKit
variable {P : Program} {E : Env} {w0 : Base} {w : World} {S0 : Nat → Prop} {hv : Hv} {s : St} {a : Act} {key : Nat} {o : Oper}
theorem bytes_of_beq {x y : ByteArray} (h : (x == y) = true) : x = y := by
  rw [beq_toListBytes, ByteArray.toList_eq, ByteArray.toList_eq] at h
  have := eq_of_beq h
  obtain ⟨⟨a⟩⟩ := x
  obtain ⟨⟨b⟩⟩ := y
  simp at this
  rw [this]
theorem bytes_beq (x : ByteArray) : (x == x) = true := by rw [beq_toListBytes]; simp
theorem eqDen_keyed : ∀ {k : Ty} (x y : k.den), k.keyed = true → eqDen k x y = some (keyEq k x y)
  | .int _, _, _, _ => rfl
  | .bool, _, _, _ => rfl
  | .str, _, _, _ => rfl
  | .unit, _, _, _ => rfl
  | .one a, x, y, h => eqDen_keyed (k := a) x y h
  | .pair a b, x, y, h => by
    simp only [Ty.keyed, Bool.and_eq_true] at h
    have h1 := eqDen_keyed (k := a) x.1 y.1 h.1
    have h2 := eqDen_keyed (k := b) x.2 y.2 h.2
    have e : eqDen (.pair a b) x y = some (keyEq a x.1 y.1 && keyEq b x.2 y.2) := by simp only [eqDen, h1, h2]
    unfold keyEq at e ⊢
    rw [e]
    rfl
  | .f64, _, _, h => by cases h
  | .sl _, _, _, h => by cases h
theorem keyEq_pair {a b : Ty} (x y : (Ty.pair a b).den) (h : (Ty.pair a b).keyed = true) : keyEq (.pair a b) x y = (keyEq a x.1 y.1 && keyEq b x.2 y.2) := by
  have h' := h
  simp only [Ty.keyed, Bool.and_eq_true] at h'
  have h1 := eqDen_keyed (k := a) x.1 y.1 h'.1
  have h2 := eqDen_keyed (k := b) x.2 y.2 h'.2
  have e : eqDen (.pair a b) x y = some (keyEq a x.1 y.1 && keyEq b x.2 y.2) := by simp only [eqDen, h1, h2]
  have := eqDen_keyed x y h
  rw [e] at this
  exact (Option.some.inj this).symm
theorem keyed_same {S S' : Nat → Prop} : ∀ {k : Ty} {x y : k.den} {cx cy : List Value}, k.keyed = true → Rep w S k x cx → Rep w S' k y cy → keyEq k x y = true → cx = cy
  | .int _, x, y, cx, cy, _, h1, h2, he => by
    have h1 : _ = _ := h1
    have h2 : _ = _ := h2
    subst h1 h2
    have : x = y := eq_of_beq (α := Int) he
    rw [this]
  | .bool, x, y, cx, cy, _, h1, h2, he => by
    have h1 : _ = _ := h1
    have h2 : _ = _ := h2
    subst h1 h2
    have : x = y := eq_of_beq (α := Bool) he
    rw [this]
  | .str, x, y, cx, cy, _, h1, h2, he => by
    have h1 : _ = _ := h1
    have h2 : _ = _ := h2
    subst h1 h2
    have : x = y := bytes_of_beq he
    rw [this]
  | .unit, _, _, _, _, _, h1, h2, _ => by
    have h1 : _ = _ := h1
    have h2 : _ = _ := h2
    subst h1 h2
    rfl
  | .one a, x, y, cx, cy, h, h1, h2, he => keyed_same (k := a) h (show Rep w S a _ _ from h1) (show Rep w S' a _ _ from h2) he
  | .pair a b, x, y, cx, cy, h, h1, h2, he => by
    obtain ⟨c1, c2, rfl, p1, p2⟩ := h1
    obtain ⟨d1, d2, rfl, q1, q2⟩ := h2
    rw [keyEq_pair _ _ h, Bool.and_eq_true] at he
    simp only [Ty.keyed, Bool.and_eq_true] at h
    rw [keyed_same h.1 p1 q1 he.1, keyed_same h.2 p2 q2 he.2]
  | .f64, _, _, _, _, h, _, _, _ => by cases h
  | .sl _, _, _, _, _, h, _, _, _ => by cases h
def bare : Value → Prop
  | .int _ _ => True
  | .bool _ => True
  | .string _ => True
  | _ => False
theorem keyed_bare {S : Nat → Prop} : ∀ {k : Ty} {x : k.den} {cx : List Value}, k.keyed = true → Rep w S k x cx → ∀ c ∈ cx, bare c
  | .int _, _, _, _, h => by have h : _ = _ := h; subst h; simp [bare]
  | .bool, _, _, _, h => by have h : _ = _ := h; subst h; simp [bare]
  | .str, _, _, _, h => by have h : _ = _ := h; subst h; simp [bare]
  | .unit, _, _, _, h => by have h : _ = _ := h; subst h; simp
  | .one a, _, _, hk, h => keyed_bare (k := a) hk (show Rep w S a _ _ from h)
  | .pair a b, _, _, hk, h => by
    obtain ⟨c1, c2, rfl, h1, h2⟩ := h
    simp only [Ty.keyed, Bool.and_eq_true] at hk
    intro c hc
    rcases List.mem_append.1 hc with hc | hc
    · exact keyed_bare hk.1 h1 c hc
    · exact keyed_bare hk.2 h2 c hc
  | .f64, _, _, h, _ => by cases h
  | .sl _, _, _, h, _ => by cases h
theorem sameBits_bare {v : Value} (h : bare v) : ∀ n, Instr.sameBits n v v = true := by
  intro n
  cases v <;> first | exact h.elim | (cases n <;> simp [Instr.sameBits, bytes_beq])
theorem sameBits_zip : ∀ (l : List Value), (∀ c ∈ l, bare c) → ((l.zip l).all fun (x, y) => Instr.sameBits 9999 x y) = true
  | [], _ => rfl
  | c :: r, h => by
    simp only [List.zip_cons_cons, List.all_cons, Bool.and_eq_true]
    exact ⟨sameBits_bare (h c (by simp)) _, sameBits_zip r fun d hd => h d (by simp [hd])⟩
theorem keyed_bits {S : Nat → Prop} {k : Ty} {x : k.den} {cx : List Value} (hk : k.keyed = true) (h : Rep w S k x cx) : Instr.sameBits 10000 (mkVal k cx) (mkVal k cx) = true := by
  have hb := keyed_bare hk h
  have hl := h.length
  unfold mkVal
  split
  · simp only [Instr.sameBits, beq_self_eq_true, Bool.true_and]
    exact sameBits_zip cx hb
  · rename_i hna
    cases k <;> first | (exact absurd rfl hna) | skip
    all_goals first | cases hk | skip
    all_goals
      have h : _ = _ := h
      subst h
      exact sameBits_bare (by simp [bare]) _
theorem run_keyThatStays {S S' : Nat → Prop} {k : Ty} {x y : k.den} {cx cy : List Value} (hk : k.keyed = true) (hx : Rep w S k x cx) (hy : Rep w S' k y cy) (he : keyEq k x y = true) : (Instr.keyThatStays (mkVal k cy) (mkVal k cx)).run P w = .ok (mkVal k cx) w := by
  have := keyed_same hk hx hy he
  subst this
  simp [Instr.keyThatStays, keyed_bits hk hx]
theorem find_split {S : Nat → Prop} {k v : Ty} {tk : TypeId} (ok : KeyOk P k tk) {kx : k.den} {ck : List Value} (hk : Rep w S k kx ck) : ∀ {l : List (Nat × (Ty.pair k v).den)} {es : List MapEntry} (i : Nat), MapIn w S k v l es →
    ((∀ p ∈ l, keyEq k kx p.2.1 = false) ∧ (Instr.findAsking tk (mkVal k ck) es i).run P w = .ok none w ∧ ∀ d, P.underlying tk = some d → ∀ r, Instr.findNow d (mkVal k ck) es i = some r → r = none) ∨
    (∃ l1 p l2 e1 e e2, l = l1 ++ p :: l2 ∧ es = e1 ++ e :: e2 ∧ e1.length = l1.length ∧ (∀ q ∈ l1, keyEq k kx q.2.1 = false) ∧ keyEq k kx p.2.1 = true ∧ (Instr.findAsking tk (mkVal k ck) es i).run P w = .ok (some (i + e1.length, e.val)) w ∧
      ∀ d, P.underlying tk = some d → ∀ r, Instr.findNow d (mkVal k ck) es i = some r → r = some (i + e1.length, e.val))
  | [], [], i, _ => .inl ⟨fun _ h => (by cases h), rfl, fun d _ r h => (by simp only [Instr.findNow, Option.some.injEq] at h; exact h.symm)⟩
  | [], _ :: _, _, h => h.elim
  | _ :: _, [], _, h => h.elim
  | p :: l, e :: es, i, h => by
    obtain ⟨⟨h1, ⟨cy, hy, hey⟩, h3⟩, hr⟩ := h
    have heq := ok.eq w S _ _ _ _ hk hy
    rw [← hey] at heq
    obtain ⟨d0, hd0, hnow⟩ := ok.und
    have hn : ∀ d, P.underlying tk = some d → ∀ c, Instr.sameNow d (mkVal k ck) e.key = some c → c = keyEq k kx p.2.1 := fun d hd c hc => by
      rw [hd0] at hd
      injection hd with hd
      subst hd
      rw [hey] at hc
      exact hnow w S _ _ _ _ _ hk hy hc
    cases hc : keyEq k kx p.2.1 with
    | true =>
      rw [hc] at heq
      refine .inr ⟨[], p, l, [], e, es, rfl, rfl, rfl, fun _ h => (by cases h), hc, by simp [Instr.findAsking, heq], fun d hd r hr' => ?_⟩
      simp only [Instr.findNow] at hr'
      split at hr'
      · injection hr' with hr'
        exact hr'.symm
      · rename_i hs
        have := hn d hd _ hs
        rw [hc] at this
        cases this
      · cases hr'
    | false =>
      rw [hc] at heq
      have hnext : ∀ d, P.underlying tk = some d → ∀ r, Instr.findNow d (mkVal k ck) (e :: es) i = some r → Instr.findNow d (mkVal k ck) es (i + 1) = some r := fun d hd r hr' => by
        simp only [Instr.findNow] at hr'
        split at hr'
        · rename_i hs
          have := hn d hd _ hs
          rw [hc] at this
          cases this
        · exact hr'
        · cases hr'
      have hask : (Instr.findAsking tk (mkVal k ck) (e :: es) i).run P w = (Instr.findAsking tk (mkVal k ck) es (i + 1)).run P w := by simp [Instr.findAsking, heq]
      rcases find_split ok hk (i + 1) hr with ⟨g1, g2, g3⟩ | ⟨l1, q, l2, e1, f, e2, rfl, rfl, g3, g4, g5, g6, g7⟩
      · exact .inl ⟨fun q hq => (List.mem_cons.1 hq).elim (fun hq => hq ▸ hc) (g1 q), hask.trans g2, fun d hd r hr' => g3 d hd r (hnext d hd r hr')⟩
      · refine .inr ⟨p :: l1, q, l2, e :: e1, f, e2, rfl, rfl, by simp [g3], fun q hq => (List.mem_cons.1 hq).elim (fun hq => hq ▸ hc) (g4 q), g5, ?_, fun d hd r hr' => ?_⟩
        · rw [hask, g6, List.length_cons, show i + 1 + e1.length = i + (e1.length + 1) by omega]
        · rw [g7 d hd r (hnext d hd r hr'), List.length_cons, show i + 1 + e1.length = i + (e1.length + 1) by omega]
theorem run_find {tk : TypeId} {kv : Value} {es : List MapEntry} {q : Option (Nat × Value)} (hu : ∃ d, P.underlying tk = some d) (h1 : (Instr.findAsking tk kv es).run P w = .ok q w) (h2 : ∀ d, P.underlying tk = some d → ∀ r, Instr.findNow d kv es 0 = some r → r = q) :
    (Instr.findKey tk kv es).run P w = .ok q w := by
  obtain ⟨d, hd⟩ := hu
  simp only [Instr.findKey, Sem.run_bind, run_underlying hd, Result.andThen_ok]
  cases hf : Instr.findNow d kv es 0 with
  | some r => rw [h2 d hd r hf]; rfl
  | none => exact h1
theorem mapGet_none {K V : Type} {eq : K → K → Bool} {k : K} : ∀ {l : List (Nat × (K × V))}, (∀ p ∈ l, eq k p.2.1 = false) → mapGet eq k l = none ∧ mapDel eq k l = l
  | [], _ => ⟨rfl, rfl⟩
  | p :: l, h => by
    obtain ⟨h1, h2⟩ := mapGet_none fun q hq => h q (List.mem_cons_of_mem _ hq)
    simp only [mapGet, mapDel, h p (by simp), cond_false, h1, h2, and_self]
theorem mapGet_split {K V : Type} {eq : K → K → Bool} {k : K} {p : Nat × (K × V)} {l2 : List (Nat × (K × V))} (hp : eq k p.2.1 = true) : ∀ {l1 : List (Nat × (K × V))}, (∀ q ∈ l1, eq k q.2.1 = false) →
    mapGet eq k (l1 ++ p :: l2) = some p.2.2 ∧ mapDel eq k (l1 ++ p :: l2) = l1 ++ l2 ∧ ∀ v, mapSet eq k v (l1 ++ p :: l2) = l1 ++ (p.1, (k, v)) :: l2
  | [], _ => by simp [mapGet, mapDel, mapSet, hp]
  | q :: l1, h => by
    obtain ⟨h1, h2, h3⟩ := mapGet_split (l2 := l2) hp fun r hr => h r (List.mem_cons_of_mem _ hr)
    simp only [List.cons_append, mapGet, mapDel, mapSet, h q (by simp), cond_false, h1, h2, h3, implies_true, and_self]
theorem run_getMap {b : Nat} {es : Array MapEntry} {c : Nat} (h : w.heap[b]? = some (.map es c)) : (getObj b).run P w = .ok (.map es c) w := by
  simp [getObj, Sem.run, h]
theorem map_get {st : Store} {k : Nat} {kt vt : Ty} {l : List (Nat × (Ty.pair kt vt).den)} {c : Nat} (h : st.map k kt vt = some (l, c)) : st.get k = some (.map kt vt l c) := by
  unfold Store.map at h
  split at h
  · rename_i k' v' l' c' hg
    split at h
    · rename_i he
      injection he with h1 h2
      subst h1 h2
      injection h with h
      injection h with h1 h2
      subst h1 h2
      exact hg
    · cases h
  · cases h
theorem own_map {st : Store} (h : StRel w S0 hv st) {k : Nat} {kt vt : Ty} {l : List (Nat × (Ty.pair kt vt).den)} {c : Nat} (hm : st.map k kt vt = some (l, c)) {v : Value} (hr : AVRep w (All S0 hv st) hv (.own k) v) :
    ∃ b es, v = .map (some b) ∧ w.heap[b]? = some (.map es c) ∧ MapIn w (All S0 hv st) kt vt l es.toList ∧ hv k = some (.map (some b)) := by
  obtain ⟨u, h1, b, es, rfl, h2, h3⟩ := h.objs _ _ (map_get hm)
  have : hv k = some v := hr.1
  rw [h1] at this
  injection this with this
  exact ⟨b, es, this.symm, h2, h3, h1⟩
theorem keyed_noSl : ∀ {k : Ty}, k.keyed = true → k.hasSl = false
  | .int _, _ => rfl
  | .bool, _ => rfl
  | .str, _ => rfl
  | .unit, _ => rfl
  | .one a, h => keyed_noSl (k := a) h
  | .pair a b, h => by
    simp only [Ty.keyed, Bool.and_eq_true] at h
    simp [Ty.hasSl, keyed_noSl h.1, keyed_noSl h.2]
  | .f64, h => by cases h
  | .sl _, h => by cases h
theorem key_rep {st : Store} (h : StRel w S0 hv st) {sl : Slot} {v : Value} (hr : SlotRep w (All S0 hv st) hv sl v) {k : Ty} (hk : k.keyed = true) {x : k.den} (hx : sl.as st k = some x) (S : Nat → Prop) : ∃ cs, Rep w S k x cs ∧ v = mkVal k cs := by
  obtain ⟨cs, h1, h2⟩ := slot_rep h hr hx (T := fun _ => False) (fun _ h => h.elim) (fun _ _ _ _ _ _ _ _ _ h => h)
  exact ⟨cs, h1.noSl (keyed_noSl hk), h2⟩
theorem op_makeMap (ok : EnvOk w0.tr P E) (h : Rel w0 S0 hv s a w) (hk : hv key = none) {T : TypeId} (ho : o.op = .makeMap T none) {kt vt : Ty} (hT : E.mapT T = some (kt, vt)) : Sound P w0 S0 hv s a w key o (.one (.own key)) (s.st.put key (.map kt vt [] 0)) := by
  have hnew : (w.alloc (.map #[] 0)).heap[w.heap.size]? = some (.map #[] 0) := heap_push _ _
  have he := erase_none (h.st.fresh hk)
  have := Post.lay (key := key) h h.gh h.st (fun _ h => h) hk key (fun p hp => by rw [h.st.fresh hk] at hp; cases hp) (.map (some w.heap.size)) (.map kt vt [] 0) rfl (w' := w.alloc (.map #[] 0)) (sl := .one (.own key)) (val := .map (some w.heap.size))
    (fun b e => .inl (by simp only [blk, Option.some.injEq] at e; omega)) (fun b hlt _ => heap_push_lt w _ hlt) (h.keep.alloc h.bn _)
  rw [he] at this
  refine ⟨_, _, _, .inl ?_, this (fun _ => ⟨w.heap.size, #[], rfl, hnew, trivial⟩) ⟨Hv.put_same, trivial⟩⟩
  simp [execOp, ho, Instr.makeMap]
theorem op_lookup (ok : EnvOk w0.tr P E) (h : Rel w0 S0 hv s a w) {T : TypeId} {x ix : Operand} {cok : Bool} (ho : o.op = .lookup T x ix cok) {av : AV} (hx : s.one x = some av) {sl : Slot} (hi : s.ev ix = some sl) {v : Slot} (he : lookupE E T av sl cok s.st = some v) : Sound P w0 S0 hv s a w key o v s.st := by
  have ra := one_rep h.tmps hx
  have ri := ev_rep h.tmps hi
  unfold lookupE at he
  split at he
  · rename_i k
    split at he
    · rename_i kt vt hT
      obtain ⟨tk, tv, z, hu, hko, hvo, hz, hzr⟩ := ok.mapT _ _ _ hT
      split at he
      · rename_i l c hm
        obtain ⟨b, es, hval, hheap, hin, _⟩ := own_map h.st hm ra
        split at he
        · rename_i kx hkx
          obtain ⟨ck, hck, hkval⟩ := key_rep h.st ri hko.keyed hkx (All S0 hv s.st)
          obtain ⟨cz, hcz, hzv⟩ := hzr w (All S0 hv s.st)
          have hund : ∃ d, P.underlying tk = some d := by obtain ⟨d, hd, _⟩ := hko.und; exact ⟨d, hd⟩
          have hchk := hko.chk es.isEmpty w _ _ _ hck
          have key2 : ∃ (q : Option (Nat × Value)) (y : vt.den) (cy : List Value), (Instr.findKey tk (mkVal kt ck) es.toList).run P w = .ok q w ∧ q.isSome = (mapGet (keyEq kt) kx l).isSome ∧ y = (mapGet (keyEq kt) kx l).getD vt.dflt ∧ Rep w (All S0 hv s.st) vt y cy ∧
              (match q with | some (_, u) => u = mkVal vt cy | none => z = mkVal vt cy) := by
            rcases find_split hko hck 0 hin with ⟨g1, g2, g3⟩ | ⟨l1, p, l2, e1, e, e2, rfl, hes, g3, g4, g5, g6, g7⟩
            · obtain ⟨q1, _⟩ := mapGet_none (eq := keyEq kt) g1
              exact ⟨none, _, cz, run_find hund g2 g3, by rw [q1]; rfl, rfl, by rw [q1]; exact hcz, hzv⟩
            · obtain ⟨q1, _, _⟩ := mapGet_split (eq := keyEq kt) (l2 := l2) g5 g4
              rw [hes] at hin
              have hpe : ∃ cv, Rep w (All S0 hv s.st) vt p.2.2 cv ∧ e.val = mkVal vt cv := by
                obtain ⟨e', he', _, _, hv'⟩ := All2.get hin l1.length p (by simp)
                rw [← g3, List.getElem?_append_right (Nat.le_refl _), Nat.sub_self, List.getElem?_cons_zero] at he'
                injection he' with he'
                subst he'
                exact hv'
              obtain ⟨cv, hcv, hev⟩ := hpe
              refine ⟨_, _, cv, run_find hund g6 g7, by rw [q1]; rfl, rfl, by rw [q1]; exact hcv, hev⟩
          obtain ⟨q, y, cy, k1, k2, k3, k4, k5⟩ := key2
          have hrun : (Instr.lookup T (a.eval x) (a.eval ix) cok).run P w = .ok (if cok then .tuple #[mkVal vt cy, .bool (mapGet (keyEq kt) kx l).isSome] else mkVal vt cy) w := by
            rw [hval, hkval]
            cases q with
            | none =>
              have hzz : z = mkVal vt cy := k5
              simp only [Instr.lookup, Sem.run_bind, run_underlying hu, Result.andThen_ok, run_getMap hheap, Sem.run_pure, hchk, k1, run_zero hz, hzz]
              rw [← k2]
              rfl
            | some pq =>
              obtain ⟨j, u⟩ := pq
              have hzz : u = mkVal vt cy := k5
              simp only [Instr.lookup, Sem.run_bind, run_underlying hu, Result.andThen_ok, run_getMap hheap, Sem.run_pure, hchk, k1, hzz]
              rw [← k2]
              rfl
          cases cok with
          | true =>
            simp only [cond_true, Option.some.injEq] at he
            subst he
            refine Sound.quiet h (val := .tuple #[mkVal vt cy, .bool (mapGet (keyEq kt) kx l).isSome]) (by simp [execOp, ho, hrun]) ⟨[mkVal vt cy, .bool (mapGet (keyEq kt) kx l).isSome], rfl, ?_⟩
            exact ⟨⟨cy, by rw [← k3]; exact k4, rfl⟩, ⟨_, rfl, rfl⟩, trivial⟩
          | false =>
            simp only [cond_false, Option.some.injEq] at he
            subst he
            refine Sound.quiet h (val := mkVal vt cy) (by simp [execOp, ho, hrun]) ⟨cy, by rw [← k3]; exact k4, rfl⟩
        · cases he
      · cases he
    · cases he
  · cases he
theorem heap_set2 {w : World} {r : Nat} {o o' : Obj} (hb : w.heap[r]? = some o) : (w.heap.setIfInBounds r o')[r]? = some o' ∧ ∀ r', r' ≠ r → (w.heap.setIfInBounds r o')[r']? = w.heap[r']? := by
  have hlt : r < w.heap.size := (Array.getElem?_eq_some_iff.1 hb).1
  exact ⟨by simp [hlt], fun r' hne => by simp [Ne.symm hne]⟩
theorem run_setMap {b : Nat} {es : Array MapEntry} {c : Nat} (ob : Obj) (h : w.heap[b]? = some (.map es c)) : (setObj b ob).run P w = .ok () { w with heap := w.heap.setIfInBounds b ob } := by
  simp [setObj, Sem.run, h]
theorem Post.map (h : Rel w0 S0 hv s a w) {st1 : Store} (hg : Gh w0 hv st1) (h1 : StRel w S0 hv st1) (hsub : ∀ b, Own hv st1 b → Own hv s.st b) {k b : Nat} {kt vt : Ty} {l l' : List (Nat × (Ty.pair kt vt).den)} {c c' : Nat} (hk : st1.get k = some (.map kt vt l c)) (hvk : hv k = some (.map (some b)))
    {es : Array MapEntry} (hb : w.heap[b]? = some (.map es c)) (es' : Array MapEntry) (hin : MapIn w (All S0 hv st1) kt vt l' es'.toList) {val : Value} (hval : val = .tuple #[]) :
    Post w0 S0 hv s.st w key (.tup []) (st1.put k (.map kt vt l' c')) hv val { w with heap := w.heap.setIfInBounds b (.map es' c') } := by
  have hset := heap_set2 (o' := .map es' c') hb
  have hown : Own hv s.st b := hsub b ⟨k, _, _, hk, hvk, rfl⟩
  have hle := h.base b hown
  obtain ⟨r1, r2, r3⟩ := h1.write (w' := { w with heap := w.heap.setIfInBounds b (.map es' c') }) (o' := .map kt vt l' c') hk rfl rfl hvk rfl rfl (fun j hj => hset.2 j hj) (fun hst => ⟨b, es', rfl, hset.1, hin.step hst⟩)
  refine ⟨r1, ((StepOk.refl _ _).sub fun b hb => hb.imp id (hsub b)).trans r2, Hv.le_refl _, fun _ _ => rfl, by rw [hval]; exact ⟨[], rfl, trivial⟩, fun c hc => h.base c (hsub c (r3 c hc)), ?_, hg.set rfl, fun b0 hb0 => hset.2 b0 fun e => ?_⟩
  · exact h.keep.trans ⟨rfl, rfl, rfl, by simp, fun j hj => hset.2 j (by omega), fun _ => Nat.le_refl _⟩
  · subst e
    exact h1.out b0 ⟨k, _, _, hk, hvk, rfl⟩ hb0
theorem modify_split {α : Type} (f : α → α) (e1 : List α) (e : α) (e2 : List α) (es : Array α) (h : es.toList = e1 ++ e :: e2) : (es.modify e1.length f).toList = e1 ++ f e :: e2 := by
  rw [Array.toList_modify, h]
  induction e1 generalizing es with
  | nil => rfl
  | cons x r ih =>
    simp only [List.cons_append, List.length_cons, List.modify_succ_cons]
    rw [ih ⟨r ++ e :: e2⟩ rfl]
theorem erase_split {α : Type} (e1 : List α) (e : α) (e2 : List α) (es : Array α) (h : es.toList = e1 ++ e :: e2) : (es.eraseIdxIfInBounds e1.length).toList = e1 ++ e2 := by
  have hl : e1.length < es.size := by rw [← Array.length_toList, h]; simp
  rw [Array.eraseIdxIfInBounds, dif_pos hl, Array.toList_eraseIdx, h, List.eraseIdx_append_of_length_le (Nat.le_refl _)]
  simp
theorem get_split {α : Type} (e1 : List α) (e : α) (e2 : List α) (es : Array α) (h : es.toList = e1 ++ e :: e2) : es[e1.length]? = some e := by
  rw [← Array.getElem?_toList, h, List.getElem?_append_right (Nat.le_refl _), Nat.sub_self]
  rfl
theorem MapIn.split {S : Nat → Prop} {kt vt : Ty} {l1 l2 : List (Nat × (Ty.pair kt vt).den)} {p : Nat × (Ty.pair kt vt).den} {e1 e2 : List MapEntry} {e : MapEntry} (hl : e1.length = l1.length) (h : MapIn w S kt vt (l1 ++ p :: l2) (e1 ++ e :: e2)) :
    MapIn w S kt vt l1 e1 ∧ MapIn w S kt vt [p] [e] ∧ MapIn w S kt vt l2 e2 := by
  induction l1 generalizing e1 with
  | nil =>
    cases e1 with
    | nil => exact ⟨trivial, ⟨h.1, trivial⟩, h.2⟩
    | cons _ _ => simp at hl
  | cons q l1 ih =>
    cases e1 with
    | nil => simp at hl
    | cons f e1 =>
      obtain ⟨g1, g2, g3⟩ := ih (by simpa using hl) h.2
      exact ⟨⟨h.1, g1⟩, g2, g3⟩
theorem op_mapUpdate (ok : EnvOk w0.tr P E) (h : Rel w0 S0 hv s a w) {T : TypeId} {x ix y : Operand} (ho : o.op = .mapUpdate T x ix y) {av : AV} (hx : s.one x = some av) {sl : Slot} (hi : s.ev ix = some sl) {vy : Slot} (hy : s.ev y = some vy) {st : Store} (he : mapUpdateE E T av sl vy s.st = some st) :
    Sound P w0 S0 hv s a w key o (.tup []) st := by
  have ra := one_rep h.tmps hx
  have ri := ev_rep h.tmps hi
  have ry := ev_rep h.tmps hy
  unfold mapUpdateE at he
  split at he
  · rename_i k
    split at he
    · rename_i kt vt hT
      obtain ⟨tk, tv, z, hu, hko, hvo, hz, hzr⟩ := ok.mapT _ _ _ hT
      split at he
      · rename_i l c hm
        obtain ⟨b, es, hval, hheap, hin, hvk⟩ := own_map h.st hm ra
        split at he
        · rename_i kx hkx
          split at he
          · rename_i vx hvx
            injection he with he
            subst he
            obtain ⟨f1, f2⟩ := fz_rel h.st vt.hasSl vy.rows
            obtain ⟨cv, hcv, hvval⟩ := slot_fz h.st ry hvx (fun _ h => h)
            have hgk : (fz s.st vt.hasSl vy.rows).get k = some (.map kt vt l c) := by
              unfold fz
              split
              · rcases get_freezes vy.rows s.st k with h' | ⟨_, _, h', _⟩
                · exact h'.trans (map_get hm)
                · rw [map_get hm] at h'
                  cases h'
              · exact map_get hm
            obtain ⟨v1, hv1, b1, es1, hq1, hq2, hin1⟩ := f1.objs _ _ hgk
            rw [hvk] at hv1
            injection hv1 with hv1
            subst hv1
            injection hq1 with hq1
            injection hq1 with hq1
            subst hq1
            rw [hheap] at hq2
            injection hq2 with hq2
            injection hq2 with hq2 _
            subst hq2
            obtain ⟨ck, hck, hkval⟩ := key_rep h.st ri hko.keyed hkx (All S0 hv (fz s.st vt.hasSl vy.rows))
            have hund : ∃ d, P.underlying tk = some d := by obtain ⟨d, hd, _⟩ := hko.und; exact ⟨d, hd⟩
            have hchk := hko.chk false w _ _ _ hck
            show Sound P w0 S0 hv s a w key o (.tup []) ((fz s.st vt.hasSl vy.rows).put k (.map kt vt (mapPut (keyEq kt) kx vx l c) (mapNext (keyEq kt) kx l c)))
            rcases find_split hko hck 0 hin1 with ⟨g1, g2, g3⟩ | ⟨l1, p, l2, e1, e, e2, rfl, hes, g3, g4, g5, g6, g7⟩
            · obtain ⟨q1, _⟩ := mapGet_none (eq := keyEq kt) g1
              have hp : mapPut (keyEq kt) kx vx l c = l ++ [(c, (kx, vx))] := by unfold mapPut; rw [q1]; rfl
              have hn : mapNext (keyEq kt) kx l c = c + 1 := by unfold mapNext; rw [q1]; rfl
              rw [hp, hn]
              refine ⟨hv, _, _, .inr ⟨?_, rfl⟩, Post.map h (fz_gh h.gh _ _) f1 f2 hgk hvk hheap (es.push { key := mkVal kt ck, val := mkVal vt cv, born := c }) ?_ rfl⟩
              · simp only [execOp, ho, hval, hkval, hvval, Instr.mapUpdate, Sem.run_bind, run_underlying hu, Result.andThen_ok, run_getMap hheap, hchk, run_find hund g2 g3, run_setMap _ hheap]
                rfl
              · rw [Array.toList_push]
                exact All2.append hin1 ⟨⟨rfl, ⟨ck, hck, rfl⟩, cv, hcv, rfl⟩, trivial⟩
            · obtain ⟨q1, _, q3⟩ := mapGet_split (eq := keyEq kt) (l2 := l2) g5 g4
              have hp : mapPut (keyEq kt) kx vx (l1 ++ p :: l2) c = l1 ++ (p.1, (kx, vx)) :: l2 := by unfold mapPut; rw [q1, q3]; rfl
              have hn : mapNext (keyEq kt) kx (l1 ++ p :: l2) c = c := by unfold mapNext; rw [q1]; rfl
              rw [hp, hn]
              rw [hes] at hin1
              obtain ⟨m1, ⟨m2, _⟩, m3⟩ := hin1.split g3
              obtain ⟨n1, ⟨cy, n2, n3⟩, n4⟩ := m2
              have hkeep := run_keyThatStays (P := P) hko.keyed hck n2 g5
              have hget := get_split e1 e e2 es hes
              rw [Nat.zero_add] at g6 g7
              refine ⟨hv, _, _, .inr ⟨?_, rfl⟩, Post.map h (fz_gh h.gh _ _) f1 f2 hgk hvk hheap (es.modify e1.length fun e => { e with key := mkVal kt ck, val := mkVal vt cv }) ?_ rfl⟩
              · simp only [execOp, ho, hval, hkval, hvval, Instr.mapUpdate, Sem.run_bind, run_underlying hu, Result.andThen_ok, run_getMap hheap, hchk, run_find hund g6 g7, hget, Option.map_some, Option.getD_some, n3, hkeep, run_setMap _ hheap]
                rfl
              · rw [modify_split _ _ _ _ _ hes]
                exact All2.append m1 ⟨⟨n1, ⟨ck, hck, rfl⟩, cv, hcv, rfl⟩, m3⟩
          · cases he
        · cases he
      · cases he
    · cases he
  · cases he
theorem op_mapLen (ok : EnvOk w0.tr P E) (h : Rel w0 S0 hv s a w) {c : Call} (ho : o.op = .call c) (hc : c.callee = .builtin .len) {x : Operand} (hx : c.args.toList = [x]) {T : TypeId} (hT : c.argTypes[0]? = some T) {kt vt : Ty} (hm : E.mapT T = some (kt, vt)) {k : Nat} (hav : s.one x = some (.own k))
    {l : List (Nat × (Ty.pair kt vt).den)} {n : Nat} (hl : s.st.map k kt vt = some (l, n)) : Sound P w0 S0 hv s a w key o (.one (.pure (.int .i64) ((l.length : Nat) : Int))) s.st := by
  obtain ⟨tk, tv, z, hu, hko, hvo, hz, hzr⟩ := ok.mapT _ _ _ hm
  obtain ⟨b, es, hval, hheap, hin, _⟩ := own_map h.st hl (one_rep h.tmps hav)
  have hargs : c.args = #[x] := by rw [← Array.toArray_toList (xs := c.args), hx]
  have hlen : es.size = l.length := by rw [hin.length, Array.length_toList]
  refine Sound.quiet h (val := .int .i64 (l.length : Nat)) ?_ (pure_int (hv := hv))
  simp [execOp, ho, resolve, hc, hargs, invoke, builtin, Builtin.len_, hT, run_underlying hu, hval, run_getMap hheap, goInt, hlen]
theorem op_delete (ok : EnvOk w0.tr P E) (h : Rel w0 S0 hv s a w) {c : Call} (ho : o.op = .call c) (hc : c.callee = .builtin .delete) {x y : Operand} (hx : c.args.toList = [x, y]) {T : TypeId} (hT : c.argTypes[0]? = some T) {kt vt : Ty} (hm : E.mapT T = some (kt, vt)) {k : Nat} (hav : s.one x = some (.own k))
    {l : List (Nat × (Ty.pair kt vt).den)} {n : Nat} (hl : s.st.map k kt vt = some (l, n)) {sl : Slot} (hy : s.ev y = some sl) {kx : kt.den} (hkx : sl.as s.st kt = some kx) : Sound P w0 S0 hv s a w key o (.tup []) (s.st.put k (.map kt vt (mapDel (keyEq kt) kx l) n)) := by
  obtain ⟨tk, tv, z, hu, hko, hvo, hz, hzr⟩ := ok.mapT _ _ _ hm
  obtain ⟨b, es, hval, hheap, hin, hvk⟩ := own_map h.st hl (one_rep h.tmps hav)
  have hargs : c.args = #[x, y] := by rw [← Array.toArray_toList (xs := c.args), hx]
  obtain ⟨ck, hck, hkval⟩ := key_rep h.st (ev_rep h.tmps hy) hko.keyed hkx (All S0 hv s.st)
  have hund : ∃ d, P.underlying tk = some d := by obtain ⟨d, hd, _⟩ := hko.und; exact ⟨d, hd⟩
  have hchk := hko.chk es.isEmpty w _ _ _ hck
  rcases find_split hko hck 0 hin with ⟨g1, g2, g3⟩ | ⟨l1, p, l2, e1, e, e2, rfl, hes, g3, g4, g5, g6, g7⟩
  · obtain ⟨_, q1⟩ := mapGet_none (eq := keyEq kt) g1
    rw [q1]
    refine ⟨hv, _, _, .inl ?_, Post.map h h.gh h.st (fun _ h => h) (map_get hl) hvk hheap es hin rfl⟩
    simp [execOp, ho, resolve, hc, hargs, invoke, builtin, Builtin.delete_, hT, run_underlying hu, hval, hkval, run_getMap hheap, hchk, run_find hund g2 g3, run_setMap _ hheap]
  · obtain ⟨_, q1, _⟩ := mapGet_split (eq := keyEq kt) (l2 := l2) g5 g4
    rw [q1]
    rw [hes] at hin
    obtain ⟨m1, _, m3⟩ := hin.split g3
    rw [Nat.zero_add] at g6 g7
    refine ⟨hv, _, _, .inl ?_, Post.map h h.gh h.st (fun _ h => h) (map_get hl) hvk hheap (es.eraseIdxIfInBounds e1.length) ?_ rfl⟩
    · simp [execOp, ho, resolve, hc, hargs, invoke, builtin, Builtin.delete_, hT, run_underlying hu, hval, hkval, run_getMap hheap, hchk, run_find hund g6 g7, run_setMap _ hheap]
    · rw [erase_split _ _ _ _ hes]
      exact All2.append m1 m3
end Go.Ev
end
section
set_option linter.unusedVariables false
set_option linter.unusedSimpArgs false
namespace Go.Ev
open Go.RowKit
variable {P : Program} {E : Env} {w0 : Base} {w : World} {S0 : Nat → Prop} {hv : Hv} {s : St} {a : Act} {key : Nat} {o : Oper}
theorem lookup_core (ok : EnvOk w0.tr P E) (h : Rel w0 S0 hv s a w) {T : TypeId} {x ix : Operand} {cok : Bool} (ho : o.op = .lookup T x ix cok) {kt vt : Ty} (hT : E.mapT T = some (kt, vt)) {b c : Nat} {es : Array MapEntry} {l : List (Nat × (Ty.pair kt vt).den)}
    (hval : a.eval x = .map (some b)) (hheap : w.heap[b]? = some (.map es c)) (hin : MapIn w (All S0 hv s.st) kt vt l es.toList) {sl : Slot} (hi : s.ev ix = some sl) {kx : kt.den} (hkx : sl.as s.st kt = some kx) : Sound P w0 S0 hv s a w key o (lookupX l kx cok) s.st := by
  have ri := ev_rep h.tmps hi
  obtain ⟨tk, tv, z, hu, hko, hvo, hz, hzr⟩ := ok.mapT _ _ _ hT
  obtain ⟨ck, hck, hkval⟩ := key_rep h.st ri hko.keyed hkx (All S0 hv s.st)
  obtain ⟨cz, hcz, hzv⟩ := hzr w (All S0 hv s.st)
  have hund : ∃ d, P.underlying tk = some d := by obtain ⟨d, hd, _⟩ := hko.und; exact ⟨d, hd⟩
  have hchk := hko.chk es.isEmpty w _ _ _ hck
  have key2 : ∃ (q : Option (Nat × Value)) (y : vt.den) (cy : List Value), (Instr.findKey tk (mkVal kt ck) es.toList).run P w = .ok q w ∧ q.isSome = (mapGet (keyEq kt) kx l).isSome ∧ y = (mapGet (keyEq kt) kx l).getD vt.dflt ∧ Rep w (All S0 hv s.st) vt y cy ∧
      (match q with | some (_, u) => u = mkVal vt cy | none => z = mkVal vt cy) := by
    rcases find_split hko hck 0 hin with ⟨g1, g2, g3⟩ | ⟨l1, p, l2, e1, e, e2, rfl, hes, g3, g4, g5, g6, g7⟩
    · obtain ⟨q1, _⟩ := mapGet_none (eq := keyEq kt) g1
      exact ⟨none, _, cz, run_find hund g2 g3, by rw [q1]; rfl, rfl, by rw [q1]; exact hcz, hzv⟩
    · obtain ⟨q1, _, _⟩ := mapGet_split (eq := keyEq kt) (l2 := l2) g5 g4
      rw [hes] at hin
      have hpe : ∃ cv, Rep w (All S0 hv s.st) vt p.2.2 cv ∧ e.val = mkVal vt cv := by
        obtain ⟨e', he', _, _, hv'⟩ := All2.get hin l1.length p (by simp)
        rw [← g3, List.getElem?_append_right (Nat.le_refl _), Nat.sub_self, List.getElem?_cons_zero] at he'
        injection he' with he'
        subst he'
        exact hv'
      obtain ⟨cv, hcv, hev⟩ := hpe
      refine ⟨_, _, cv, run_find hund g6 g7, by rw [q1]; rfl, rfl, by rw [q1]; exact hcv, hev⟩
  obtain ⟨q, y, cy, k1, k2, k3, k4, k5⟩ := key2
  have hrun : (Instr.lookup T (a.eval x) (a.eval ix) cok).run P w = .ok (if cok then .tuple #[mkVal vt cy, .bool (mapGet (keyEq kt) kx l).isSome] else mkVal vt cy) w := by
    rw [hval, hkval]
    cases q with
    | none =>
      have hzz : z = mkVal vt cy := k5
      simp only [Instr.lookup, Sem.run_bind, run_underlying hu, Result.andThen_ok, run_getMap hheap, Sem.run_pure, hchk, k1, run_zero hz, hzz]
      rw [← k2]
      rfl
    | some pq =>
      obtain ⟨j, u⟩ := pq
      have hzz : u = mkVal vt cy := k5
      simp only [Instr.lookup, Sem.run_bind, run_underlying hu, Result.andThen_ok, run_getMap hheap, Sem.run_pure, hchk, k1, hzz]
      rw [← k2]
      rfl
  cases cok with
  | true =>
    refine Sound.quiet h (val := .tuple #[mkVal vt cy, .bool (mapGet (keyEq kt) kx l).isSome]) (by simp [execOp, ho, hrun]) ⟨[mkVal vt cy, .bool (mapGet (keyEq kt) kx l).isSome], rfl, ?_⟩
    exact ⟨⟨cy, by rw [← k3]; exact k4, rfl⟩, ⟨_, rfl, rfl⟩, trivial⟩
  | false =>
    refine Sound.quiet h (val := mkVal vt cy) (by simp [execOp, ho, hrun]) ⟨cy, by rw [← k3]; exact k4, rfl⟩
theorem box_cptr {S : Nat → Prop} {t : Ty} {d : t.den} {v : Value} (h : AVRep w S hv (.pure (.box t) d) v) : AVRep w S hv (.cptr t d 0) v := by
  obtain ⟨cs, ⟨b, vs, ty, rfl, hs, hw, hr⟩, rfl⟩ := h
  refine ⟨b, 0, vs.toList, hr, fun j c hj => ⟨hs, ?_⟩, by simp [mkVal, Ty.isAgg]⟩
  rw [cell_of hw, Nat.zero_add]
  simpa using hj
def isNilp : AV → Bool
  | .nilp => true
  | _ => false
theorem ptr_val {S : Nat → Prop} {av : AV} {v : Value} (h : AVRep w S hv av v) (hav : av = .nilp ∨ (∃ t d, av = .pure (.box t) d) ∨ (∃ k, av = .ref k 0 0 0) ∨ ∃ t x n, av = .cptr t x n) : ∃ p : Option Addr, v = .pointer p ∧ p.isNone = isNilp av := by
  rcases hav with rfl | ⟨t, d, rfl⟩ | ⟨k, rfl⟩ | ⟨t, x, n, rfl⟩
  · exact ⟨none, h, rfl⟩
  · obtain ⟨cs, ⟨b, vs, ty, rfl, _⟩, rfl⟩ := h
    exact ⟨some ⟨b, 0, none⟩, by simp [mkVal, Ty.isAgg], rfl⟩
  · rcases h with ⟨b, _, rfl⟩ | ⟨b, o, len, cap, _, _, rfl⟩ <;> exact ⟨some _, rfl, rfl⟩
  · obtain ⟨b, o, cs, _, _, rfl⟩ := h
    exact ⟨some _, rfl, rfl⟩
theorem ptrNil_spec {x y : AV} {c : Bool} (h : ptrNil x y = some c) : (x = .nilp ∨ (∃ t d, x = .pure (.box t) d) ∨ (∃ k, x = .ref k 0 0 0) ∨ ∃ t z n, x = .cptr t z n) ∧ (y = .nilp ∨ (∃ t d, y = .pure (.box t) d) ∨ (∃ k, y = .ref k 0 0 0) ∨ ∃ t z n, y = .cptr t z n) ∧
    (isNilp x = true ∨ isNilp y = true) ∧ c = decide (isNilp x = isNilp y) := by
  unfold ptrNil at h
  split at h <;> first | cases h | (injection h with h; subst h)
  · exact ⟨.inl rfl, .inl rfl, .inl rfl, rfl⟩
  · exact ⟨.inl rfl, .inr (.inl ⟨_, _, rfl⟩), .inl rfl, rfl⟩
  · exact ⟨.inl rfl, .inr (.inr (.inl ⟨_, rfl⟩)), .inl rfl, rfl⟩
  · exact ⟨.inl rfl, .inr (.inr (.inr ⟨_, _, _, rfl⟩)), .inl rfl, rfl⟩
  · exact ⟨.inr (.inl ⟨_, _, rfl⟩), .inl rfl, .inr rfl, rfl⟩
  · exact ⟨.inr (.inr (.inl ⟨_, rfl⟩)), .inl rfl, .inr rfl, rfl⟩
  · exact ⟨.inr (.inr (.inr ⟨_, _, _, rfl⟩)), .inl rfl, .inr rfl, rfl⟩
theorem eq_ptr {T te : TypeId} (hu : P.underlying T = some (.pointer te)) (p q : Option Addr) (hpq : p.isNone = true ∨ q.isNone = true) : (Op.equal T (.pointer p) (.pointer q)).run P w = .ok (decide (p.isNone = q.isNone)) w := by
  have hd : Op.maxDepth = Op.maxDepth - 1 + 1 := by decide
  unfold Op.equal
  rw [hd]
  cases p <;> cases q <;> first | (simp at hpq; done) | simp [Op.equalIn, run_underlying hu]
theorem guard_ptr {op : BinOp} {T te : TypeId} (hu : P.underlying T = some (.pointer te)) (x y : Operand) (p q : Option Addr) : (eqGuard op T x y (.pointer p) (.pointer q)).run P w = .ok () w := by
  unfold eqGuard
  cases op <;> simp
theorem op_ptrNil (ok : EnvOk w0.tr P E) (h : Rel w0 S0 hv s a w) {op : BinOp} {T T' : TypeId} {x y : Operand} (ho : o.op = .binOp op T x y T') (hT : E.ptr T = true) {av bv : AV} (hx : s.one x = some av) (hy : s.one y = some bv) {c : Bool} (hc : ptrNil av bv = some c) {v : Bool}
    (hop : (op = .eql ∧ v = c) ∨ (op = .neq ∧ v = !c)) : Sound P w0 S0 hv s a w key o (.one (.pure .bool v)) s.st := by
  obtain ⟨te, hu⟩ := ok.ptr T hT
  obtain ⟨h1, h2, h3, h4⟩ := ptrNil_spec hc
  obtain ⟨p, e1, p1⟩ := ptr_val (one_rep h.tmps hx) h1
  obtain ⟨q, e2, q1⟩ := ptr_val (one_rep h.tmps hy) h2
  have hpq : p.isNone = true ∨ q.isNone = true := by rw [p1, q1]; exact h3
  have heq := eq_ptr (P := P) (w := w) hu p q hpq
  rw [p1, q1, ← h4] at heq
  refine Sound.quiet h (val := .bool v) ?_ (pure_bool (hv := hv))
  rcases hop with ⟨rfl, rfl⟩ | ⟨rfl, rfl⟩ <;> simp [execOp, ho, e1, e2, guard_ptr hu, Go.binOp, heq]
theorem pure_map {S : Nat → Prop} {k v : Ty} {d : (Ty.mp k v).den} {u : Value} (h : AVRep w S hv (.pure (.mp k v) d) u) : ∃ b es, u = .map (some b) ∧ ¬ S b ∧ w.heap[b]? = some (.map es d.2) ∧ MapIn w S k v d.1 es.toList := by
  obtain ⟨cs, ⟨b, es, rfl, hs, hw, hr⟩, rfl⟩ := h
  exact ⟨b, es, by simp [mkVal, Ty.isAgg], hs, hw, hr⟩
theorem op_lenC (ok : EnvOk w0.tr P E) (h : Rel w0 S0 hv s a w) {c : Call} (ho : o.op = .call c) (hc : c.callee = .builtin .len) {x : Operand} (hx : c.args.toList = [x]) {T : TypeId} (hT : c.argTypes[0]? = some T) {kv : Ty × Ty} (hm : E.mapT T = some kv) {k v : Ty} {d : (Ty.mp k v).den} (hav : s.one x = some (.pure (.mp k v) d)) :
    Sound P w0 S0 hv s a w key o (.one (.pure (.int .i64) ((List.length (α := Nat × (k.den × v.den)) d.1 : Nat) : Int))) s.st := by
  obtain ⟨tk, tv, z, hu, hko, hvo, hz, hzr⟩ := ok.mapT _ _ _ hm
  obtain ⟨b, es, hval, _, hheap, hin⟩ := pure_map (one_rep h.tmps hav)
  have hargs : c.args = #[x] := by rw [← Array.toArray_toList (xs := c.args), hx]
  have hlen : es.size = List.length (α := Nat × (k.den × v.den)) d.1 := by rw [hin.length, Array.length_toList]
  refine Sound.quiet h (val := .int .i64 (List.length (α := Nat × (k.den × v.den)) d.1 : Nat)) ?_ (pure_int (hv := hv))
  simp [execOp, ho, resolve, hc, hargs, invoke, builtin, Builtin.len_, hT, run_underlying hu, hval, run_getMap hheap, goInt, hlen]
theorem op_range (ok : EnvOk w0.tr P E) (h : Rel w0 S0 hv s a w) (hk : hv key = none) {T : TypeId} {x : Operand} (ho : o.op = .range T x) {kv : Ty × Ty} (hm : E.mapT T = some kv) {k v : Ty} {d : (Ty.mp k v).den} (hav : s.one x = some (.pure (.mp k v) d)) :
    Sound P w0 S0 hv s a w key o (.one (.own key)) (s.st.put key (.iter k v d.1 d.2 [])) := by
  obtain ⟨tk, tv, z, hu, hko, hvo, hz, hzr⟩ := ok.mapT _ _ _ hm
  have hrep := one_rep h.tmps hav
  obtain ⟨b, es, hval, hsb, hheap, hin⟩ := pure_map hrep
  have hnew : (w.alloc (.mapIter (some b) d.2 #[] d.2)).heap[w.heap.size]? = some (.mapIter (some b) d.2 #[] d.2) := heap_push _ _
  have he := erase_none (h.st.fresh hk)
  have := Post.lay (key := key) h h.gh h.st (fun _ h => h) hk key (fun p hp => by rw [h.st.fresh hk] at hp; cases hp) (.pointer (some ⟨w.heap.size, 0, none⟩)) (.iter k v d.1 d.2 []) rfl (w' := w.alloc (.mapIter (some b) d.2 #[] d.2)) (sl := .one (.own key)) (val := .pointer (some ⟨w.heap.size, 0, none⟩))
    (fun b e => .inl (by simp only [blk, Option.some.injEq] at e; omega)) (fun b hlt _ => heap_push_lt w _ hlt) (h.keep.alloc h.bn _)
  rw [he] at this
  refine ⟨_, _, _, .inl ?_, this (fun hst => ⟨w.heap.size, b, #[], rfl, hnew, rfl, ?_⟩) ⟨Hv.put_same, trivial⟩⟩
  · simp [execOp, ho, Instr.range, run_underlying hu, hval, run_getMap hheap]
  · obtain ⟨cs, hr, e⟩ := hrep
    have hr1 := hr
    obtain ⟨b', es', rfl, _⟩ := hr1
    rw [hval] at e
    have : b' = b := by simpa [mkVal, Ty.isAgg] using e.symm
    subst this
    exact hr.step hst
theorem iter_get {j : Nat} {k v : Ty} {l : List (Nat × (Ty.pair k v).den)} {c : Nat} {seen : List Nat} (h : Rel w0 S0 hv s a w) {x : Operand} (hx : s.one x = some (.own j)) (hg : s.st.get j = some (.iter k v l c seen)) :
    ∃ b m sn es, hv j = some (.pointer (some ⟨b, 0, none⟩)) ∧ a.eval x = .pointer (some ⟨b, 0, none⟩) ∧ w.heap[b]? = some (.mapIter (some m) c sn c) ∧ sn.toList = seen ∧ ¬ All S0 hv s.st m ∧ w.heap[m]? = some (.map es c) ∧ MapIn w (All S0 hv s.st) k v l es.toList := by
  obtain ⟨u, h1, b, m, sn, rfl, h2, h3, h4⟩ := h.st.objs _ _ hg
  have hx := one_rep h.tmps hx
  obtain ⟨m', es, e, h5, h6, h7⟩ := h4
  have e : m = m' := by simpa using e
  subst e
  exact ⟨b, m, sn, es, h1, Option.some.inj (hx.1.symm.trans h1), h2, h3, h5, h6, h7⟩
theorem run_getIter {b : Nat} {m : Option Nat} {c d : Nat} {sn : Array Nat} (h : w.heap[b]? = some (.mapIter m c sn d)) : (getObj b).run P w = .ok (.mapIter m c sn d) w := by simp [getObj, Sem.run, h]
theorem run_setIter {b : Nat} {m : Option Nat} {c d : Nat} {sn : Array Nat} (ob : Obj) (h : w.heap[b]? = some (.mapIter m c sn d)) : (setObj b ob).run P w = .ok () { w with heap := w.heap.setIfInBounds b ob } := by
  simp [setObj, Sem.run, h]
theorem find_all2 {α β : Type} {R : α → β → Prop} {p : α → Bool} {q : β → Bool} (hpq : ∀ a b, R a b → p a = q b) : ∀ {l : List α} {m : List β}, All2 R l m → (∀ a, l.find? p = some a → ∃ b, m.find? q = some b ∧ R a b)
  | [], [], _, a, h => by cases h
  | x :: l, y :: m, h, a, ha => by
    rw [List.find?_cons] at ha
    rw [List.find?_cons, ← hpq x y h.1]
    split at ha
    · rename_i hp
      injection ha with ha
      subst ha
      exact ⟨y, rfl, h.1⟩
    · rename_i hp
      exact find_all2 hpq h.2 a ha
  | [], _ :: _, h, _, _ => h.elim
  | _ :: _, [], h, _, _ => h.elim
theorem op_entry (h : Rel w0 S0 hv s a w) {x : Operand} (ho : o.op = .entry x) {j : Nat} (hx : s.one x = some (.own j)) {k v : Ty} {l : List (Nat × (Ty.pair k v).den)} {c : Nat} {seen : List Nat} (hg : s.st.get j = some (.iter k v l c seen)) {b : Nat} (hb : seen.getLast? = some b)
    {e : Nat × (Ty.pair k v).den} (he : l.find? (fun e => e.1 == b) = some e) : Sound P w0 S0 hv s a w key o (.tup [.pure k e.2.1, .pure v e.2.2]) s.st := by
  obtain ⟨blk0, m, sn, es, h1, h2, h3, h4, h5, h6, h7⟩ := iter_get h hx hg
  obtain ⟨me, g1, g2, ⟨ck, g3, g4⟩, cv, g5, g6⟩ := find_all2 (q := fun me : MapEntry => me.born == b) (fun p q hr => by rw [hr.1]) h7 e he
  have hback : sn.back? = some b := by rw [← Array.getLast?_toList, h4]; exact hb
  refine Sound.quiet h (val := .tuple #[mkVal k ck, mkVal v cv]) ?_ ⟨[mkVal k ck, mkVal v cv], rfl, ⟨ck, g3, rfl⟩, ⟨cv, g5, rfl⟩, trivial⟩
  have hf : es.find? (fun me => me.born == b) = some me := by rw [← Array.find?_toList]; exact g1
  simp [execOp, ho, Instr.entry, h2, run_getIter h3, run_getMap h6, hback, hf, g4, g6]
theorem valX_sound (ok : EnvOk w0.tr P E) (h : Rel w0 S0 hv s a w) (hk : hv key = none) {v : Slot} {st : Store} (he : evalX E key o s = some (.val true v st)) : Sound P w0 S0 hv s a w key o v st := by
  unfold evalX at he
  split at he
  · rename_i x ho
    split at he
    · rename_i t d hx
      simp only [Option.some.injEq, Eff.val.injEq, true_and] at he
      obtain ⟨rfl, rfl⟩ := he
      have hr := one_rep h.tmps hx
      refine Sound.quiet h (val := a.eval x) ?_ (box_cptr hr)
      obtain ⟨cs, ⟨b, vs, ty, rfl, _⟩, e⟩ := hr
      have e : a.eval x = .pointer (some ⟨b, 0, none⟩) := by rw [e]; simp [mkVal, Ty.isAgg]
      simp [execOp, ho, e]
    · cases he
  · rename_i op T x y T' ho
    cases hT : E.ptr T with
    | false => rw [hT] at he; cases he
    | true =>
      rw [hT] at he
      simp only [cond_true] at he
      split at he
      · rename_i av hx
        split at he
        · rename_i bv hy
          split at he
          · rename_i c hc
            split at he
            · simp only [Option.some.injEq, Eff.val.injEq, true_and] at he
              obtain ⟨rfl, rfl⟩ := he
              exact op_ptrNil ok h ho hT hx hy hc (.inl ⟨rfl, rfl⟩)
            · simp only [Option.some.injEq, Eff.val.injEq, true_and] at he
              obtain ⟨rfl, rfl⟩ := he
              exact op_ptrNil ok h ho hT hx hy hc (.inr ⟨rfl, rfl⟩)
            · cases he
          · cases he
        · cases he
      · cases he
  · rename_i T x ix cok ho
    split at he
    · rename_i k v' d hx
      split at he
      · rename_i k2 v2 hT
        split at he
        · rename_i e
          injection e with e1 e2
          subst e1 e2
          split at he
          · rename_i sl hi
            split at he
            · rename_i kx hkx
              simp only [Option.some.injEq, Eff.val.injEq, true_and] at he
              obtain ⟨rfl, rfl⟩ := he
              obtain ⟨b, es, hval, _, hheap, hin⟩ := pure_map (one_rep h.tmps hx)
              exact lookup_core ok h ho hT hval hheap hin hi hkx
            · cases he
          · cases he
        · cases he
      · cases he
    · cases he
  · rename_i c ho
    split at he
    · rename_i hc
      split at he
      · rename_i x hx
        split at he
        · rename_i k v' d hav
          split at he
          · rename_i T hT
            split at he
            · rename_i kv hm
              simp only [Option.some.injEq, Eff.val.injEq, true_and] at he
              obtain ⟨rfl, rfl⟩ := he
              exact op_lenC ok h ho hc hx hT hm hav
            · cases he
          · cases he
        · cases he
      · cases he
    · cases he
  · rename_i T x ho
    split at he
    · rename_i k v' d hx
      split at he
      · rename_i kv hm
        simp only [Option.some.injEq, Eff.val.injEq, true_and] at he
        obtain ⟨rfl, rfl⟩ := he
        exact op_range ok h hk ho hm hx
      · cases he
    · cases he
  · rename_i x ho
    split at he
    · rename_i j hx
      split at he
      · rename_i k v' l c seen hg
        simp only [Option.some.injEq, Eff.val.injEq] at he
        obtain ⟨hc, rfl, rfl⟩ := he
        cases hcur : curOf l seen with
        | none => rw [hcur] at hc; cases hc
        | some e =>
          have hcur' := hcur
          unfold curOf at hcur'
          split at hcur'
          · rename_i b hb
            exact op_entry h ho hx hg hb hcur'
          · cases hcur'
      · cases he
    · cases he
  · cases he
theorem amb_all {α : Type} {R : Type} {K : α → Option R} {r : R} : ∀ {l : List α}, amb l K = some r → ∀ a ∈ l, K a = some r
  | [], h, _, _ => by cases h
  | [a], h, b, hb => by
    rw [List.mem_singleton] at hb
    exact hb ▸ h
  | a :: b :: l, h, c, hc => by
    simp only [amb] at h
    split at h
    · rename_i z hz
      split at h
      · rename_i hr
        injection h with h
        subst h
        rcases List.mem_cons.1 hc with rfl | hc
        · exact hz
        · exact amb_all hr c hc
      · cases h
    · cases h
def Choice.list : Choice → List (Slot × Store)
  | .next _ l so no => l.map fun p => match p with
    | some e => so e
    | none => no
  | .bool l t f => l.map fun b => bif b then t else f
def Choice.good : Choice → Bool
  | .next g _ _ _ => g
  | .bool _ _ _ => true
theorem Choice.run_good {R : Type} {C : Choice} {K : Slot × Store → Option R} {r : R} (h : C.run K = some r) : C.good = true := by
  cases C with
  | next g l so no =>
    cases g with
    | true => rfl
    | false => cases h
  | bool l t f => rfl
theorem Choice.run_all {R : Type} {C : Choice} {K : Slot × Store → Option R} {r : R} (h : C.run K = some r) : ∀ p ∈ C.list, K p = some r := by
  cases C with
  | next g l so no =>
    intro p hp
    obtain ⟨q, hq, rfl⟩ := List.mem_map.1 hp
    cases g with
    | false => cases h
    | true =>
      have := amb_all (show amb l _ = some r from h) q hq
      cases q <;> exact this
  | bool l t f =>
    intro p hp
    obtain ⟨q, hq, rfl⟩ := List.mem_map.1 hp
    have := amb_all h q hq
    cases q <;> exact this
def Some1 (P : Program) (w0 : Base) (S0 : Nat → Prop) (hv : Hv) (s : St) (a : Act) (w : World) (key : Nat) (o : Oper) (l : List (Slot × Store)) : Prop :=
  ∃ p ∈ l, Sound P w0 S0 hv s a w key o p.1 p.2
theorem op_nilOf (ok : EnvOk w0.tr P E) (h : Rel w0 S0 hv s a w) {op : BinOp} {T T' : TypeId} {x y : Operand} (ho : o.op = .binOp op T x y T') {e : Ty} (hT : E.ty T = some (.sl e)) {av bv : AV} (hx : s.one x = some av) (hy : s.one y = some bv) {l : List Bool} (hl : nilOf s.st av bv = some l) :
    ∃ c ∈ l, (op = .eql → Sound P w0 S0 hv s a w key o (.one (.pure .bool c)) s.st) ∧ (op = .neq → Sound P w0 S0 hv s a w key o (.one (.pure .bool (!c))) s.st) := by
  obtain ⟨_, te, hu, _⟩ := ok.ty _ _ hT
  have rx := one_rep h.tmps hx
  have ry := one_rep h.tmps hy
  have hd : Op.maxDepth = Op.maxDepth - 1 + 1 := by decide
  have main : ∀ (A : Option Addr) (n cap : Nat), a.eval x = .slice A n cap → a.eval y = .slice none 0 0 → (op = .eql → Sound P w0 S0 hv s a w key o (.one (.pure .bool A.isNone)) s.st) ∧ (op = .neq → Sound P w0 S0 hv s a w key o (.one (.pure .bool (!A.isNone))) s.st) := by
    intro A n cap ex ey
    have heq : (Op.equal T (.slice A n cap) (.slice none 0 0)).run P w = .ok A.isNone w := by
      unfold Op.equal
      rw [hd]
      cases A <;> simp [Op.equalIn, run_underlying hu]
    have hg : ∀ op : BinOp, (eqGuard op T x y (.slice A n cap) (.slice none 0 0)).run P w = .ok () w := fun op => by
      unfold eqGuard
      cases op <;> simp
    constructor
    · rintro rfl
      exact Sound.quiet h (val := .bool A.isNone) (by simp [execOp, ho, ex, ey, hg, Go.binOp, heq]) (pure_bool (hv := hv))
    · rintro rfl
      exact Sound.quiet h (val := .bool (!A.isNone)) (by simp [execOp, ho, ex, ey, hg, Go.binOp, heq]) (pure_bool (hv := hv))
  unfold nilOf at hl
  split at hl
  · have ry : a.eval y = .slice none 0 0 := ry
    split at hl
    · injection hl with hl
      subst hl
      have rx : a.eval x = .slice none 0 0 := rx
      exact ⟨true, by simp, main none 0 0 rx ry⟩
    · rename_i av' hne
      split at hl
      · rename_i n hn
        injection hl with hl
        subst hl
        have hsl : ∃ A cap, a.eval x = .slice A n cap ∧ (0 < n → A.isNone = false) := by
          unfold sliceLen at hn
          split at hn
          · rename_i e' xs
            injection hn with hn
            subst hn
            obtain ⟨cs, ⟨A, cap, rfl, _, H⟩, e⟩ := rx
            refine ⟨A, cap, by rw [e]; simp [mkVal, Ty.isAgg], fun hpos => ?_⟩
            obtain ⟨b, o', es, rfl, _⟩ := H 0 _ (List.getElem?_eq_getElem hpos)
            rfl
          · cases hn
          · rename_i j
            unfold Store.len at hn
            split at hn
            · rename_i e' xs hg
              injection hn with hn
              subst hn
              obtain ⟨u, h1, hob⟩ := h.st.objs _ _ hg
              have hu' := Option.some.inj (rx.1.symm.trans h1)
              rcases hob with ⟨A, rfl, rfl⟩ | ⟨b, o', cap, vs, ty, rfl, _⟩
              · exact ⟨A, 0, hu', fun h => by simp at h⟩
              · exact ⟨_, cap, hu', fun _ => rfl⟩
            · rename_i e' xs hg
              injection hn with hn
              subst hn
              obtain ⟨u, h1, A, cap, e, _, H⟩ := h.st.objs _ _ hg
              have hu' := Option.some.inj (rx.1.symm.trans h1)
              have e : u = .slice A (List.length xs) cap := by simpa using e
              subst e
              refine ⟨A, cap, hu', fun hpos => ?_⟩
              obtain ⟨b, o', es, rfl, _⟩ := H 0 _ (List.getElem?_eq_getElem hpos)
              rfl
            · cases hn
          · cases hn
        obtain ⟨A, cap, ex, hA⟩ := hsl
        refine ⟨A.isNone, ?_, main A n cap ex ry⟩
        cases n with
        | zero => cases A <;> simp [nilB]
        | succ n => rw [hA (by omega)]; simp [nilB]
      · cases hl
  · cases hl
theorem all2_filter {α β : Type} {R : α → β → Prop} {p : α → Bool} {q : β → Bool} (hpq : ∀ a b, R a b → p a = q b) : ∀ {l : List α} {m : List β}, All2 R l m → All2 R (l.filter p) (m.filter q)
  | [], [], _ => trivial
  | x :: l, y :: m, h => by
    rw [List.filter_cons, List.filter_cons, ← hpq x y h.1]
    cases hp : p x with
    | true => exact ⟨h.1, all2_filter hpq h.2⟩
    | false => exact all2_filter hpq h.2
  | [], _ :: _, h => h.elim
  | _ :: _, [], h => h.elim
theorem all2_all {α β : Type} {R : α → β → Prop} {p : α → Bool} {q : β → Bool} (hpq : ∀ a b, R a b → p a = q b) : ∀ {l : List α} {m : List β}, All2 R l m → l.all p = m.all q
  | [], [], _ => rfl
  | x :: l, y :: m, h => by simp only [List.all_cons, hpq x y h.1, all2_all hpq h.2]
  | [], _ :: _, h => h.elim
  | _ :: _, [], h => h.elim
theorem step_drew (S : Nat → Prop) : StepOk w S w.drew S := fun b h1 h2 => ⟨h1, rfl⟩
theorem Rel.drewX {s : St} (h : Rel w0 S0 hv s a w) : Rel w0 S0 hv s a w.drew := by
  have hs := step_drew (w := w) (All S0 hv s.st)
  exact ⟨h.st.change hs (Hv.le_refl _) (fun k o hk => .inl ⟨hk, rfl, fun _ _ _ _ => rfl⟩) h.st.inj h.st.out (h.st.names (Hv.le_refl _) (fun _ _ _ h => h) fun _ _ _ h => ⟨h, rfl, fun _ _ _ _ => rfl⟩), h.tmps.mono fun _ _ r => r.step hs (Hv.le_refl _), h.base, h.s0, h.keep.drew, h.dfr, h.gh, h.stp.trans hs, h.kp⟩
theorem Post.ofDrew {st st' : Store} {hv' : Hv} {v : Slot} {val : Value} {w' : World} (p : Post w0 S0 hv st w.drew key v st' hv' val w') : Post w0 S0 hv st w key v st' hv' val w' :=
  ⟨p.rel, (step_drew _).trans p.step, p.le, p.only, p.rep, p.base, p.keep, p.gh, p.kp⟩
theorem Post.iter (h : Rel w0 S0 hv s a w) {j b m : Nat} {k v : Ty} {l : List (Nat × (Ty.pair k v).den)} {c : Nat} {seen seen' : List Nat} (hg : s.st.get j = some (.iter k v l c seen)) (hvk : hv j = some (.pointer (some ⟨b, 0, none⟩)))
    {sn : Array Nat} (hb : w.heap[b]? = some (.mapIter (some m) c sn c)) (sn' : Array Nat) (hs : sn'.toList = seen') {sl : Slot} {val : Value} (hr : Rep w (All S0 hv s.st) (.mp k v) (l, c) [.map (some m)])
    (hsl : StepOk w (All S0 hv s.st) { w with heap := w.heap.setIfInBounds b (.mapIter (some m) c sn' c) } (All S0 hv (s.st.put j (.iter k v l c seen'))) → SlotRep { w with heap := w.heap.setIfInBounds b (.mapIter (some m) c sn' c) } (All S0 hv (s.st.put j (.iter k v l c seen'))) hv sl val) :
    Post w0 S0 hv s.st w key sl (s.st.put j (.iter k v l c seen')) hv val { w with heap := w.heap.setIfInBounds b (.mapIter (some m) c sn' c) } := by
  have hset := heap_set2 (o' := .mapIter (some m) c sn' c) hb
  have hown : Own hv s.st b := ⟨j, _, _, hg, hvk, rfl⟩
  have hle := h.base b hown
  obtain ⟨r1, r2, r3⟩ := h.st.write (w' := { w with heap := w.heap.setIfInBounds b (.mapIter (some m) c sn' c) }) (o' := .iter k v l c seen') hg rfl rfl hvk rfl rfl (fun j hj => hset.2 j hj) (fun hst => ⟨b, m, sn', rfl, hset.1, hs, hr.step hst⟩)
  refine ⟨r1, r2, Hv.le_refl _, fun _ _ => rfl, hsl r2, fun c hc => h.base c (r3 c hc), ?_, Gh.set h.gh rfl, fun b0 hb0 => hset.2 b0 fun e => ?_⟩
  · exact h.keep.trans ⟨rfl, rfl, rfl, by simp, fun j hj => hset.2 j (by omega), fun _ => Nat.le_refl _⟩
  · subst e
    exact h.st.out b0 ⟨j, _, _, hg, hvk, rfl⟩ hb0
theorem op_next (h : Rel w0 S0 hv s a w) {x : Operand} (ho : o.op = .next x false) {j : Nat} (hx : s.one x = some (.own j)) {k v : Ty} {l : List (Nat × (Ty.pair k v).den)} {c : Nat} {seen : List Nat} (hg : s.st.get j = some (.iter k v l c seen)) (hall : l.all (fun e => Nat.blt e.1 c) = true) :
    ∃ p ∈ nextOf l seen, match p with
      | some e => Sound P w0 S0 hv s a w key o (.tup [.pure .bool true, .pure k e.2.1, .pure v e.2.2]) (s.st.put j (.iter k v l c (seen ++ [e.1])))
      | none => Sound P w0 S0 hv s a w key o (.tup [.pure .bool false]) s.st := by
  obtain ⟨b, m, sn, es, h1, h2, h3, h4, h5, h6, h7⟩ := iter_get h hx hg
  have hne : m ≠ b := fun e => by subst e; rw [h3] at h6; cases h6
  obtain ⟨left, hleft⟩ : ∃ left, left = es.filter (fun e => !sn.contains e.born) := ⟨_, rfl⟩
  have hin : MapIn w (All S0 hv s.st) k v (l.filter fun e => !seen.contains e.1) left.toList := by
    rw [hleft, Array.toList_filter]
    exact all2_filter (fun p q hr => by rw [hr.1, ← h4]; simp) h7
  have hborn : ∀ e ∈ es, e.born < c := fun e he => by
    have := (all2_all (R := fun (p : Nat × (Ty.pair k v).den) (e : MapEntry) => e.born = p.1 ∧ (∃ ck, Rep w (All S0 hv s.st) k p.2.1 ck ∧ e.key = mkVal k ck) ∧ ∃ cv, Rep w (All S0 hv s.st) v p.2.2 cv ∧ e.val = mkVal v cv) (q := fun e : MapEntry => Nat.blt e.born c) (fun p q hr => by rw [hr.1]) h7).symm.trans hall
    rw [List.all_eq_true] at this
    have := this e (Array.mem_toList_iff.2 he)
    rw [Nat.blt_eq] at this
    exact this
  have hold : left.filter (fun e => decide (e.born < c)) = left := by
    apply Array.ext'
    rw [Array.toList_filter, List.filter_eq_self]
    intro e he
    rw [hleft, Array.toList_filter] at he
    simpa using hborn e (Array.mem_toList_iff.1 (List.mem_filter.1 he).1)
  have hnew : left.filter (fun e => decide (e.born ≥ c)) = #[] := by
    apply Array.ext'
    rw [Array.toList_filter]
    show _ = []
    rw [List.filter_eq_nil_iff]
    intro e he
    rw [hleft, Array.toList_filter] at he
    have := hborn e (Array.mem_toList_iff.1 (List.mem_filter.1 he).1)
    simp
    omega
  have hchk : (!sn.isEmpty && !es.isEmpty && es.all (fun e => decide (e.born ≥ c))) = false := by
    cases hes : es.isEmpty with
    | true => simp
    | false =>
      have : ∃ e, e ∈ es := by
        rw [Array.isEmpty_eq_false_iff_exists_mem] at hes
        exact hes
      obtain ⟨e, he⟩ := this
      have hlt := hborn e he
      have : es.all (fun e => decide (e.born ≥ c)) = false := by
        rw [Bool.eq_false_iff]
        intro hc
        rw [Array.all_eq_true_iff_forall_mem] at hc
        have := hc e he
        simp at this
        omega
      rw [this]
      simp
  obtain ⟨cands, hcands⟩ : ∃ cands : Array (Option MapEntry), cands = (if left.isEmpty then #[none] else #[]) ++ left.map some := ⟨_, rfl⟩
  have hrun : ∀ (i : Nat) (w1 : World), (choose (.mapNext cands.size)).run P w = .ok i w1 → (Instr.next (.pointer (some ⟨b, 0, none⟩)) false o.type).run P w =
      ((match cands[i]? with
        | some (some e) => (do setObj b (.mapIter (some m) c (sn.push e.born) c); pure (.tuple #[.bool true, e.key, e.val]))
        | some none => pure (.tuple #[.bool false])
        | none => stuck "Next: no such candidate" : Sem Value)).run P w1 := by
    intro i w1 hi
    rw [hcands] at hi ⊢
    simp only [Instr.next, Sem.run_bind, run_getIter h3, Result.andThen_ok, run_getMap h6, hchk, Bool.false_eq_true, if_false, Sem.run_pure, ← hleft, hold, hnew, Array.append_empty, hi]
    rfl
  have hne' : 0 < cands.size := by
    rw [hcands]
    cases hl : left.isEmpty with
    | true => simp; omega
    | false =>
      have : 0 < left.size := by
        rcases Nat.eq_zero_or_pos left.size with h0 | h0
        · rw [Array.isEmpty_iff_size_eq_zero.2 h0] at hl
          cases hl
        · exact h0
      simp [this]
  obtain ⟨i, w1, hi, hlt, hw1⟩ : ∃ i w1, (choose (.mapNext cands.size)).run P w = .ok i w1 ∧ i < cands.size ∧ (w1 = w ∨ w1 = w.drew) := by
    by_cases h1 : cands.size ≤ 1
    · exact ⟨0, w, by rw [run_choose]; simp [Question.forced, h1], hne', .inl rfl⟩
    · refine ⟨w.tape w.drawn (.mapNext cands.size) % cands.size, w.drew, by rw [run_choose, if_neg (by simp [Question.forced, h1])]; rfl, Nat.mod_lt _ hne', .inr rfl⟩
  obtain ⟨h', hex⟩ : Rel w0 S0 hv s a w1 ∧ ∀ {v : Slot} {val : Value} {st' : Store} {w2 : World}, Post w0 S0 hv s.st w1 key v st' hv val w2 → Post w0 S0 hv s.st w key v st' hv val w2 := by
    rcases hw1 with rfl | rfl
    · exact ⟨h, fun p => p⟩
    · exact ⟨h.drewX, fun p => p.ofDrew⟩
  have hheap : w1.heap = w.heap := by rcases hw1 with rfl | rfl <;> rfl
  have hdone := hrun i w1 hi
  have hlen := hin.length
  by_cases hl0 : left = #[]
  ·
    have hc0 : cands = #[none] := by rw [hcands, hl0]; simp
    have hi0 : i = 0 := by rw [hc0] at hlt; simp at hlt; exact hlt
    subst hi0
    rw [hc0] at hdone
    refine ⟨none, ?_, hv, .tuple #[.bool false], w1, .inl ?_, hex (Post.quiet h' ⟨[.bool false], rfl, ⟨_, rfl, rfl⟩, trivial⟩)⟩
    · have : l.filter (fun e => !seen.contains e.1) = [] := List.eq_nil_of_length_eq_zero (by rw [hlen, hl0]; rfl)
      unfold nextOf
      rw [this]
      simp
    · simp only [execOp, ho, h2]
      show ((do let x ← Instr.next (.pointer (some ⟨b, 0, none⟩)) false o.type; pure (Next.value x)) : Sem Next).run P w = _
      rw [Sem.run_bind, hdone]
      rfl
  · have hc1 : cands = left.map some := by
      rw [hcands]
      cases hl : left.isEmpty with
      | true => exact absurd (Array.isEmpty_iff.1 hl) hl0
      | false => simp
    have hil : i < left.size := by rw [hc1] at hlt; simpa using hlt
    have hci : cands[i]? = some (some left[i]) := by rw [hc1]; simp [hil]
    rw [hci] at hdone
    simp only [Sem.run_bind] at hdone
    have hb1 : w1.heap[b]? = some (.mapIter (some m) c sn c) := by rw [hheap]; exact h3
    rw [run_setIter _ hb1] at hdone
    simp only [Result.andThen_ok, Sem.run_pure] at hdone
    have hlf : i < (l.filter fun e => !seen.contains e.1).length := by rw [hlen]; simpa using hil
    obtain ⟨me, g1, g2, ⟨ck, g3, g4⟩, cv, g5, g6⟩ := hin.get i _ (List.getElem?_eq_getElem hlf)
    have hme : me = left[i] := by
      rw [Array.getElem?_toList, Array.getElem?_eq_getElem hil] at g1
      exact (Option.some.inj g1).symm
    rw [← hme] at hdone
    have hs1 : StepOk w (All S0 hv s.st) w1 (All S0 hv s.st) := by rcases hw1 with rfl | rfl; exact StepOk.refl _ _; exact step_drew _
    have hrm : Rep w1 (All S0 hv s.st) (.mp k v) (l, c) [.map (some m)] := Rep.step hs1 ⟨m, es, rfl, h5, h6, h7⟩
    refine ⟨some ((l.filter fun e => !seen.contains e.1)[i]), ?_, hv, .tuple #[.bool true, me.key, me.val], _, .inl ?_, hex (Post.iter h' hg h1 hb1 (sn.push me.born) (by rw [Array.toList_push, h4, g2]) hrm fun hst => ?_)⟩
    · unfold nextOf
      split
      · rename_i hnil
        rw [hnil] at hlf
        simp at hlf
      · rename_i a' r' hcons
        simp only [hcons]
        exact List.mem_map_of_mem (List.getElem_mem _)
    · simp only [execOp, ho, h2]
      show ((do let x ← Instr.next (.pointer (some ⟨b, 0, none⟩)) false o.type; pure (Next.value x)) : Sem Next).run P w = _
      rw [Sem.run_bind, hdone]
      rfl
    · refine ⟨[.bool true, me.key, me.val], rfl, ⟨_, rfl, rfl⟩, ⟨ck, (g3.step hs1).step hst, g4⟩, ⟨cv, (g5.step hs1).step hst, g6⟩, trivial⟩
theorem choice_sound (ok : EnvOk w0.tr P E) (h : Rel w0 S0 hv s a w) {C : Choice} (he : choicesOf E o s = some C) (hgood : C.good = true) : Some1 P w0 S0 hv s a w key o C.list := by
  unfold choicesOf at he
  split at he
  · rename_i x ho
    split at he
    · rename_i j hx
      split at he
      · rename_i k v l' c seen hg
        simp only [Option.some.injEq] at he
        subst he
        have hall : l'.all (fun e => Nat.blt e.1 c) = true := hgood
        obtain ⟨p, hp, hs⟩ := op_next (key := key) h ho hx hg hall
        refine ⟨_, List.mem_map_of_mem hp, ?_⟩
        cases p <;> exact hs
      · cases he
    · cases he
  · rename_i op T x y T' ho
    split at he
    · rename_i e hT
      split at he
      · rename_i av hx
        split at he
        · rename_i bv hy
          split at he
          · rename_i l' hl
            obtain ⟨c, hc, h1, h2⟩ := op_nilOf (key := key) ok h ho hT hx hy hl
            split at he
            · simp only [Option.some.injEq] at he
              subst he
              refine ⟨_, List.mem_map_of_mem hc, ?_⟩
              cases c <;> exact h1 rfl
            · simp only [Option.some.injEq] at he
              subst he
              refine ⟨_, List.mem_map_of_mem hc, ?_⟩
              cases c <;> exact h2 rfl
            · cases he
          · cases he
        · cases he
      · cases he
    · cases he
  · cases he
end Go.Ev
end
section
set_option linter.unusedVariables false
set_option linter.unusedSimpArgs false
namespace Go.Ev
open Go.RowKit
variable {P : Program} {E : Env} {w0 : Base} {w : World} {S0 : Nat → Prop} {hv : Hv} {s : St} {a : Act} {key : Nat} {o : Oper}
theorem val_sound0 (ok : EnvOk w0.tr P E) (h : Rel w0 S0 hv s a w) (hk : hv key = none) {v : Slot} {st : Store} (he : evalOp0 E key o s = some (.val true v st)) : Sound P w0 S0 hv s a w key o v st := by
  unfold evalOp0 at he
  split at he
  · rename_i x ho
    obtain ⟨sl, hsl, e⟩ := Option.map_eq_some_iff.1 he
    simp only [Eff.val.injEq, true_and] at e
    obtain ⟨rfl, rfl⟩ := e
    exact op_move h (.inl ho) hsl
  · rename_i x ho
    obtain ⟨sl, hsl, e⟩ := Option.map_eq_some_iff.1 he
    simp only [Eff.val.injEq, true_and] at e
    obtain ⟨rfl, rfl⟩ := e
    exact op_move h (.inr ho) hsl
  · rename_i t ho
    obtain ⟨cs, hz, e⟩ := Option.map_eq_some_iff.1 he
    simp only [Eff.val.injEq, true_and] at e
    obtain ⟨rfl, rfl⟩ := e
    exact op_alloc ok h hk ho hz
  · rename_i t x ho
    split at he
    · rename_i sl hsl
      split at he
      · rename_i cs hc
        simp only [Option.some.injEq, Eff.val.injEq, true_and] at he
        obtain ⟨rfl, rfl⟩ := he
        exact op_box h hk ho hsl hc
      · cases he
    · cases he
  · rename_i t parts ho
    split at he
    · rename_i cs hz
      split at he
      · rename_i hst
        obtain ⟨l, hl, e⟩ := Option.map_eq_some_iff.1 he
        simp only [Eff.val.injEq, true_and] at e
        obtain ⟨rfl, rfl⟩ := e
        exact op_build ok h ho hz hl (ok.strct _ hst)
      · cases he
    · cases he
  · rename_i t len parts ho
    split at he
    · rename_i e hT
      split at he
      · rename_i xs hp
        split at he
        · rename_i hc
          simp only [Option.some.injEq, Eff.val.injEq, true_and] at he
          obtain ⟨rfl, rfl⟩ := he
          exact op_buildSlice ok h hk ho hT hp hc.1 hc.2
        · cases he
      · cases he
    · cases he
  · rename_i t x ho
    split at he
    · rename_i av hx
      obtain ⟨sl, hl, e⟩ := Option.map_eq_some_iff.1 he
      simp only [Eff.val.injEq, true_and] at e
      obtain ⟨rfl, rfl⟩ := e
      exact op_load ok h ho hx hl
    · cases he
  · rename_i t x y ho
    split at he
    · rename_i av hx
      split at he
      · rename_i sl hy
        obtain ⟨st1, hl, e⟩ := Option.map_eq_some_iff.1 he
        simp only [Eff.val.injEq, true_and] at e
        obtain ⟨rfl, rfl⟩ := e
        exact op_store ok h ho hx hy hl
      · cases he
    · cases he
  · rename_i x ho
    split at he
    · rename_i p q r t hx
      simp only [Option.some.injEq, Eff.val.injEq, true_and] at he
      obtain ⟨rfl, rfl⟩ := he
      exact op_nilCheck h ho hx (.inl ⟨_, _, _, _, rfl⟩)
    · rename_i p q r hx
      simp only [Option.some.injEq, Eff.val.injEq, true_and] at he
      obtain ⟨rfl, rfl⟩ := he
      exact op_nilCheck h ho hx (.inr (.inl ⟨_, _, _, rfl⟩))
    · rename_i p q hx
      simp only [Option.some.injEq, Eff.val.injEq, true_and] at he
      obtain ⟨rfl, rfl⟩ := he
      exact op_nilCheck h ho hx (.inr (.inr ⟨_, _, rfl⟩))
    · cases he
  · rename_i op t x y t' ho
    split at he
    · rename_i sx hx
      split at he
      · rename_i sy hy
        obtain ⟨⟨c, v1⟩, hb, e⟩ := Option.map_eq_some_iff.1 he
        simp only [Eff.val.injEq] at e
        obtain ⟨rfl, rfl, rfl⟩ := e
        exact op_binOp ok h ho hx hy hb
      · cases he
    · cases he
  · rename_i op t x ho
    refine op_unOp (E := E) (c := true) h ho ?_
    unfold evalOp0
    rw [ho]
    exact he
  · rename_i src dst x ho
    split at he
    · rename_i sx hx
      exact op_convert ok h ho hx he
    · cases he
  · rename_i t l c ho
    split at he
    · rename_i e hT
      split at he
      · rename_i by_ hby
        split at he
        · rename_i k n hn
          split at he
          · rename_i k' m hm
            simp only [Option.some.injEq, Eff.val.injEq, Bool.and_eq_true, decide_eq_true_eq] at he
            obtain ⟨⟨⟨⟨h0, h1⟩, h2⟩, h3⟩, rfl, rfl⟩ := he
            exact op_makeSlice ok h hk ho hT hby hn hm h0 h1 h2 h3
          · cases he
        · cases he
      · cases he
    · cases he
  · rename_i t x lo hi mx ho
    split at he
    · split at he
      · rename_i e hT
        split at he
        · rename_i av hx
          split at he
          · rename_i len hl
            split at he
            · rename_i l hlo
              split at he
              · rename_i r hhi
                exact op_slice ok h ho hT hx hl hlo hhi he
              · cases he
            · cases he
          · cases he
        · cases he
      · cases he
    · cases he
  · rename_i t x f ho
    split at he
    · rename_i d n hf
      split at he
      · rename_i k i sz off hx
        simp only [Option.some.injEq, Eff.val.injEq, true_and] at he
        obtain ⟨rfl, rfl⟩ := he
        exact op_fieldAddr ok h ho hf hx (.inl ⟨_, _, _, _, rfl, rfl⟩)
      · rename_i e y off hx
        simp only [Option.some.injEq, Eff.val.injEq, true_and] at he
        obtain ⟨rfl, rfl⟩ := he
        exact op_fieldAddr ok h ho hf hx (.inr ⟨_, _, _, rfl, rfl⟩)
      · cases he
    · cases he
  · rename_i t x ix ho
    split at he
    · rename_i e hT
      split at he
      · rename_i av hx
        split at he
        · rename_i k i hi
          exact op_indexAddr ok h ho hT hx hi he
        · cases he
      · cases he
    · cases he
  · rename_i x i ho
    split at he
    · rename_i l hx
      obtain ⟨av, hl, e⟩ := Option.map_eq_some_iff.1 he
      simp only [Eff.val.injEq, true_and] at e
      obtain ⟨rfl, rfl⟩ := e
      exact op_extract h ho hx hl
    · cases he
  · rename_i c ho
    unfold callE at he
    split at he
    · rename_i hc
      split at he
      · rename_i x hx
        split at he
        · rename_i av hav
          split at he
          · rename_i T hT
            split at he
            · rename_i e hty
              obtain ⟨n, hn, e⟩ := Option.map_eq_some_iff.1 he
              simp only [Eff.val.injEq, true_and] at e
              obtain ⟨rfl, rfl⟩ := e
              exact op_len ok h ho hc hx hT hty hav hn
            · split at he
              · rename_i kt vt hm
                split at he
                · split at he
                  · rename_i l n hl
                    simp only [Option.some.injEq, Eff.val.injEq, true_and] at he
                    obtain ⟨rfl, rfl⟩ := he
                    exact op_mapLen ok h ho hc hx hT hm hav hl
                  · cases he
                · cases he
              · cases he
          · cases he
        · cases he
      · cases he
    · rename_i hc
      split at he
      · rename_i x y hx
        split at he
        · rename_i av hav
          split at he
          · rename_i bv hbv
            split at he
            · rename_i T T' hTT
              split at he
              · rename_i e hty
                split at he
                · rename_i e' hty'
                  split at he
                  · rename_i by_ hby
                    exact op_append ok h hk ho hc hx hTT hty hty' hby hav hbv he
                  · cases he
                · cases he
              · cases he
            · cases he
          · cases he
        · cases he
      · cases he
    · rename_i hc
      split at he
      · rename_i x y hx
        split at he
        · rename_i k m hm
          split at he
          · rename_i k' n hn
            simp only [Option.some.injEq, Eff.val.injEq, true_and] at he
            obtain ⟨rfl, rfl⟩ := he
            exact op_min h ho hc hx hm hn
          · cases he
        · cases he
      · cases he
    · rename_i hc
      split at he
      · rename_i x y hx
        split at he
        · rename_i k m hm
          split at he
          · rename_i k' n hn
            simp only [Option.some.injEq, Eff.val.injEq, true_and] at he
            obtain ⟨rfl, rfl⟩ := he
            exact op_max h ho hc hx hm hn
          · cases he
        · cases he
      · cases he
    · rename_i hc
      split at he
      · rename_i x y hx
        split at he
        · rename_i k hav
          split at he
          · rename_i T hT
            split at he
            · rename_i kt vt hm
              split at he
              · rename_i l n hl
                split at he
                · rename_i sl hy
                  split at he
                  · rename_i kx hkx
                    simp only [Option.some.injEq, Eff.val.injEq, true_and] at he
                    obtain ⟨rfl, rfl⟩ := he
                    exact op_delete ok h ho hc hx hT hm hav hl hy hkx
                  · cases he
                · cases he
              · cases he
            · cases he
          · cases he
        · cases he
      · cases he
    · cases he
  · rename_i fn first captured ho
    split at he
    · rename_i f
      split at he
      · rename_i hf0
        split at he
        · rename_i ks hks
          simp only [Option.some.injEq, Eff.val.injEq, true_and] at he
          obtain ⟨rfl, rfl⟩ := he
          exact op_makeFunc h ho hf0 hks
        · cases he
      · cases he
    · cases he
  · rename_i t r ho
    split at he
    · split at he
      · rename_i kt vt hm
        simp only [Option.some.injEq, Eff.val.injEq, true_and] at he
        obtain ⟨rfl, rfl⟩ := he
        exact op_makeMap ok h hk ho hm
      · cases he
    · cases he
  · rename_i t x ix cok ho
    split at he
    · rename_i av hx
      split at he
      · rename_i sl hi
        obtain ⟨v1, hl, e⟩ := Option.map_eq_some_iff.1 he
        simp only [Eff.val.injEq, true_and] at e
        obtain ⟨rfl, rfl⟩ := e
        exact op_lookup ok h ho hx hi hl
      · cases he
    · cases he
  · rename_i t x ix y ho
    split at he
    · rename_i av hx
      split at he
      · rename_i sl hi
        split at he
        · rename_i vy hy
          obtain ⟨st1, hl, e⟩ := Option.map_eq_some_iff.1 he
          simp only [Eff.val.injEq, true_and] at e
          obtain ⟨rfl, rfl⟩ := e
          exact op_mapUpdate ok h ho hx hi hy hl
        · cases he
      · cases he
    · cases he
  · cases he
theorem val_sound (ok : EnvOk w0.tr P E) (h : Rel w0 S0 hv s a w) (hk : hv key = none) {v : Slot} {st : Store} (he : evalOp E key o s = some (.val true v st)) : Sound P w0 S0 hv s a w key o v st := by
  unfold evalOp at he
  split at he
  · rename_i e hX
    injection he with he
    subst he
    exact valX_sound ok h hk hX
  · exact val_sound0 ok h hk he
end Go.Ev
end
section
set_option linter.unusedVariables false
set_option linter.unusedSimpArgs false
namespace Go.Ev
open Go.RowKit
variable {P : Program} {E : Env} {w0 : Base} {w : World} {S0 : Nat → Prop} {hv : Hv} {s : St} {a : Act} {key : Nat} {o : Oper} {R : Type}
theorem kind_pick {c x y : Operand} (h : kindOf o = .pick c x y) : o.op = .pick c x y := by
  unfold kindOf at h
  split at h
  · rename_i ho
    simp only [Kind.pick.injEq] at h
    obtain ⟨rfl, rfl, rfl⟩ := h
    exact ho
  · split at h <;> cases h
  · cases h
theorem kind_call {f : FuncId} {args : List Operand} (h : kindOf o = .call f args) : ∃ c : Call, o.op = .call c ∧ c.callee = .value (.func f) ∧ c.args.toList = args := by
  unfold kindOf at h
  split at h
  · cases h
  · rename_i c ho
    split at h
    · rename_i g hc
      simp only [Kind.call.injEq] at h
      obtain ⟨rfl, rfl⟩ := h
      exact ⟨c, ho, hc, rfl⟩
    · cases h
  · cases h
theorem capsSlots_rep (h : StRel w S0 hv s.st) : ∀ {caps : List Nat} {l : List Slot} {vs : List Value}, capsSlots s.st caps = some l → All2 (fun k v => hv k = some v) caps vs → All2 (SlotRep w (All S0 hv s.st) hv) l vs
  | [], l, vs, hl, hv' => by
    simp only [capsSlots, Option.some.injEq] at hl
    subst hl
    cases vs <;> first | trivial | exact hv'.elim
  | k :: r, l, [], hl, hv' => hv'.elim
  | k :: r, l, v :: vs, hl, hv' => by
    simp only [capsSlots] at hl
    split at hl
    · rename_i cs hg
      split at hl
      · rename_i m hm
        injection hl with hl
        subst hl
        refine ⟨?_, capsSlots_rep h hm hv'.2⟩
        obtain ⟨u, h1, b, us, ty, rfl, _⟩ := h.objs _ _ hg
        have : hv k = some v := hv'.1
        rw [h1] at this
        injection this with this
        subst this
        exact .inl ⟨b, h1, rfl⟩
      · cases hl
    · cases hl
theorem ext_sound (ok : EnvOk w0.tr P E) (h : Rel w0 S0 hv s a w) (hk : ∀ j, j < 16 → hv (key + j) = none) {X : Nat → List Slot → Store → Option ExtR} {as : List Slot} (hx : extOf E o s = some (X, as))
    {D : Type} {d : D} {out : D → Slot × Store} (hX : X key as s.st = some ⟨D, some d, out⟩) {K : Act → World → Prop} {Q : Exit → Act → World → Prop}
    (hK : ∀ hv' val w', Post w0 S0 hv s.st w key (out d).1 (out d).2 hv' val w' → K (a.put o.dst val) w') : o.wp P a w K Q := by
  unfold extOf at hx
  split at hx
  · rename_i c ho
    split at hx
    · rename_i x hc
      split at hx
      · rename_i f caps hxf
        split at hx
        · rename_i X' hX'
          split at hx
          · rename_i as' has
            split at hx
            · rename_i l hl
              injection hx with hx
              injection hx with h1 h2
              subst h1 h2
              obtain ⟨hent, hext, _⟩ := ok.ext _ _ hX'
              have hev := evs_rep h.tmps has
              obtain ⟨cv, hcv, hfv⟩ := ev_rep h.tmps hxf
              have hcap := capsSlots_rep h.st hl hcv
              have hrun : (execOp a.eval o).run P w = .ok (.enter f (c.args.toList.map a.eval ++ cv).toArray) w := by
                have hargs : c.args.map a.eval = (c.args.toList.map a.eval).toArray := by rw [← Array.toList_map]
                simp [execOp, ho, resolve, hc, hfv, Deferred.ofValue, invoke, hargs]
                exact hent _ _
              unfold Oper.wp
              rw [hrun]
              show Calls P f _ w _
              refine (hext w0 w S0 hv s.st key _ _ ⟨D, some d, out⟩ d rfl hX rfl h.st (hev.append hcap) h.base h.s0 h.keep h.gh hk).mono ?_
              rintro e w' ⟨v, hv', rfl, hp⟩
              exact hK _ _ _ hp
            · cases hx
          · cases hx
        · cases hx
      · cases hx
    · cases hx
  · cases hx
theorem extGo_some {Y : Option ExtR} {r : Slot × Store} (h : extGo Y = some r) : ∃ D d out, Y = some ⟨D, some d, out⟩ ∧ out d = r := by
  unfold extGo at h
  split at h
  · injection h with h
    exact ⟨_, _, _, rfl, h⟩
  · cases h
theorem extGo_of {Y : Option ExtR} {D : Type} {val : Option D} {out : D → Slot × Store} {d : D} (h1 : Y = some ⟨D, val, out⟩) (h2 : val = some d) : extGo Y = some (out d) := by
  subst h1 h2
  rfl
theorem stepD_sound (ok : EnvOk w0.tr P E) (h : Rel w0 S0 hv s a w) (hk : ∀ j, j < 16 → hv (key + j) = none) {v : Slot} {st : Store} (he : stepD E key o s = some (v, st)) {K : Act → World → Prop} {Q : Exit → Act → World → Prop}
    (hK : ∀ hv' val w', Post w0 S0 hv s.st w key v st hv' val w' → K (a.put o.dst val) w') : o.wp P a w K Q := by
  unfold stepD at he
  split at he
  · rename_i X as hx
    obtain ⟨D, d, out, hX, he⟩ := extGo_some he
    refine ext_sound ok h hk hx hX fun hv' val w' hp => hK hv' val w' ?_
    rw [he] at hp
    exact hp
  split at he
  · rename_i c x y hkd
    have ho := kind_pick hkd
    split at he
    · rename_i c' sx sy hp
      simp only [Option.some.injEq, Prod.mk.injEq] at he
      obtain ⟨rfl, rfl⟩ := he
      unfold pickV at hp
      split at hp
      · rename_i c1 hc
        split at hp
        · rename_i sx' hx
          split at hp
          · rename_i sy' hy
            simp only [Option.some.injEq, Prod.mk.injEq] at hp
            obtain ⟨rfl, rfl, rfl⟩ := hp
            have hrun : (execOp a.eval o).run P w = .ok (.value (if c1 then a.eval x else a.eval y)) w := by
              simp [execOp, ho, bool_rep h.tmps hc, asBool]
            refine Done.wp (.inl hrun) (hK _ _ _ (Post.quiet h ?_))
            cases c1
            · exact ev_rep h.tmps hy
            · exact ev_rep h.tmps hx
          · cases hp
        · cases hp
      · cases hp
    · cases he
  · rename_i f args hkd
    obtain ⟨c, ho, hc, rfl⟩ := kind_call hkd
    split at he
    · rename_i sp x st' hcv
      split at he
      · rename_i r hr
        simp only [Option.some.injEq, Prod.mk.injEq] at he
        obtain ⟨rfl, rfl⟩ := he
        unfold callV at hcv
        split at hcv
        · rename_i sp' hsp
          split at hcv
          · rename_i as has
            split at hcv
            · rename_i x' hx
              split at hcv
              · rename_i hf
                simp only [Option.some.injEq, Sigma.mk.injEq] at hcv
                obtain ⟨rfl, hcv⟩ := hcv
                have hcv := eq_of_heq hcv
                simp only [Prod.mk.injEq] at hcv
                obtain ⟨rfl, rfl⟩ := hcv
                exact op_call ok h hk ho hc hsp has hx hf hr hK
              · cases hcv
            · cases hcv
          · cases hcv
        · cases hcv
      · cases he
    · cases he
  · split at he
    · rename_i c v' st' hev
      split at he
      · rename_i hc
        subst hc
        simp only [Option.some.injEq, Prod.mk.injEq] at he
        obtain ⟨rfl, rfl⟩ := he
        obtain ⟨hv', val, w', hd, hp⟩ := val_sound ok h (hk 0 (by omega)) hev
        exact hd.wp (hK _ _ _ hp)
      · cases he
    · cases he
theorem Rel.after (h : Rel w0 S0 hv s a w) {v : Slot} {st : Store} {hv' : Hv} {val : Value} {w' : World} (hp : Post w0 S0 hv s.st w key v st hv' val w') (d : Option Tmp) : Rel w0 S0 hv' (s.after d v st) (a.put d val) w' := by
  have ht : All2 (SlotRep w' (All S0 hv' st) hv') s.tmps a.tmps.toList := h.tmps.mono fun _ _ r => r.step hp.step hp.le
  cases d with
  | none => exact ⟨hp.rel, ht, hp.base, h.s0, hp.keep, h.dfr, hp.gh, h.stp.trans hp.step, fun b hb => (hp.kp b hb).trans (h.kp b hb)⟩
  | some t => exact ⟨hp.rel, by simpa [St.after, Act.put] using ht.set hp.rep t, hp.base, h.s0, hp.keep, h.dfr, hp.gh, h.stp.trans hp.step, fun b hb => (hp.kp b hb).trans (h.kp b hb)⟩
theorem Rel.skip (h : Rel w0 S0 hv s a w) (d : Option Tmp) : Rel w0 S0 hv (s.set d (.tup [])) (a.put d undef) w := by
  cases d with
  | none => exact h
  | some t => exact ⟨h.st, by simpa [St.set, Act.put] using h.tmps.set (show SlotRep _ _ _ (.tup []) undef from ⟨[], rfl, trivial⟩) t, h.base, h.s0, h.keep, h.dfr, h.gh, h.stp, h.kp⟩
theorem guard_rep (h : Rel w0 S0 hv s a w) {ops : Array Oper} {g : Gd} (hg : guardOf ops o s = some g) : Region.wanted o (yielded ops a.tmps) = (match g with | .run => true | .skip => false | .test _ want b => b == want) := by
  unfold guardOf at hg
  split at hg
  · rename_i ho
    injection hg with hg
    subst hg
    simp [Region.wanted, ho]
  · rename_i j wt ho
    split at hg
    · rename_i t' ht
      split at hg
      · rename_i b' hb
        injection hg with hg
        subst hg
        obtain ⟨u, h1, h2⟩ := h.tmps.get _ _ hb
        obtain ⟨cs, h3, h4⟩ := h2
        have h3 : _ = _ := h3
        subst h3
        have h4 : u = .bool b' := h4
        subst h4
        have h1' : a.tmps[t']? = some (.bool b') := by simpa using h1
        simp only [Region.wanted, ho, yielded, ht, Option.bind_some, h1']
        rfl
      · rename_i hb
        injection hg with hg
        subst hg
        obtain ⟨u, h1, vs, h2, h3⟩ := h.tmps.get _ _ hb
        cases vs with
        | nil =>
          subst h2
          have h1' : a.tmps[t']? = some (.tuple #[]) := by simpa using h1
          simp only [Region.wanted, ho, yielded, ht, Option.bind_some, h1']
          rfl
        | cons _ _ => exact h3.elim
      · cases hg
    · cases hg
theorem guard_tmp {ops : Array Oper} {t : Tmp} {want b : Bool} (hg : guardOf ops o s = some (.test t want b)) : s.tmps[t]? = some (.one (.pure .bool b)) := by
  unfold guardOf at hg
  split at hg
  · simp at hg
  · split at hg
    · split at hg
      · rename_i hb
        simp only [Option.some.injEq, Gd.test.injEq] at hg
        obtain ⟨rfl, _, rfl⟩ := hg
        exact hb
      · cases hg
      · cases hg
    · cases hg
theorem set_same {s : St} {t : Tmp} {sl : Slot} (h : s.tmps[t]? = some sl) : s.set (some t) sl = s := by
  have : s.tmps.set t sl = s.tmps := by
    apply List.ext_getElem?
    intro i
    by_cases hi : t = i
    · subst hi
      rw [List.getElem?_set_self (List.getElem?_eq_some_iff.1 h).1, h]
    · rw [List.getElem?_set_ne hi]
  simp [St.set, this]
theorem runOp_step {K : St → Option R} {r : R} (he : runOp E key o s K = some r) : ∃ v st, stepD E key o s = some (v, st) ∧ K (s.after o.dst v st) = some r := by
  unfold runOp at he
  unfold stepD
  split at he
  · rename_i X as hx
    split at he
    · rename_i D val out hX
      split at he
      · rename_i d
        exact ⟨(out d).1, (out d).2, (extGo_of (D := D) (out := out) (d := d) hX rfl), he⟩
      · cases he
    · cases he
  split at he
  · rename_i c x y hkd
    split at he
    · cases he
    · rename_i c' sx sy hp
      split at he
      · rename_i t p t' q
        split at he
        · rename_i ht
          subst ht
          refine ⟨if c' = true then .one (.pure t' p) else .one (.pure t' q), s.st, by simp [hkd, hp], ?_⟩
          cases c' <;> exact he
        · cases he
      · refine ⟨if c' = true then sx else sy, s.st, by simp [hkd, hp], ?_⟩
        cases c' <;> exact he
  · rename_i f args hkd
    split at he
    · cases he
    · rename_i sp x st' hcv
      split at he
      · cases he
      · rename_i r' hr
        exact ⟨_, _, by simp [hkd, hcv, hr], he⟩
  · rename_i hkd
    split at he
    · cases he
    · rename_i c v st hev
      cases c with
      | false => cases he
      | true => exact ⟨v, st, by simp [hkd, hev], he⟩
theorem runG_step {ops : Array Oper} {K : St → Option R} {r : R} (he : runG E ops key o s K = some r) : ∃ v st, stepG E ops key o s = some (v, st) ∧ K (s.after o.dst v st) = some r := by
  have hset : ∀ v, s.set o.dst v = s.after o.dst v s.st := fun v => by cases hd : o.dst <;> simp [St.set, St.after]
  unfold runG at he
  unfold stepG
  split at he
  · cases he
  · rename_i hg
    obtain ⟨v, st, h1, h2⟩ := runOp_step he
    exact ⟨v, st, by simp [hg, h1], h2⟩
  · rename_i hg
    exact ⟨_, _, by simp [hg]; exact ⟨rfl, rfl⟩, by rw [← hset]; exact he⟩
  · rename_i t b hg
    have hb := guard_tmp hg
    cases b with
    | true =>
      simp only [cond_true] at he
      rw [set_same hb] at he
      obtain ⟨v, st, h1, h2⟩ := runOp_step he
      exact ⟨v, st, by simp [hg, h1], h2⟩
    | false =>
      simp only [cond_false] at he
      rw [set_same hb] at he
      exact ⟨_, _, by simp [hg]; exact ⟨rfl, rfl⟩, by rw [← hset]; exact he⟩
  · rename_i t b hg
    have hb := guard_tmp hg
    cases b with
    | false =>
      simp only [cond_false] at he
      rw [set_same hb] at he
      obtain ⟨v, st, h1, h2⟩ := runOp_step he
      exact ⟨v, st, by simp [hg, h1], h2⟩
    | true =>
      simp only [cond_true] at he
      rw [set_same hb] at he
      exact ⟨_, _, by simp [hg]; exact ⟨rfl, rfl⟩, by rw [← hset]; exact he⟩
theorem stepG_sound (ok : EnvOk w0.tr P E) (h : Rel w0 S0 hv s a w) (hk : ∀ j, j < 16 → hv (key + j) = none) {ops : Array Oper} {v : Slot} {st : Store} (he : stepG E ops key o s = some (v, st)) {K : Act → World → Prop} {Q : Exit → Act → World → Prop}
    (hK : ∀ hv' a' w', Rel w0 S0 hv' (s.after o.dst v st) a' w' → (∀ k, (k < key ∨ key + 16 ≤ k) → hv' k = hv k) → K a' w') :
    if Region.wanted o (yielded ops a.tmps) then o.wp P a w K Q ∨ (o.asks P a w ∧ LetsOut Q) else K (a.put o.dst undef) w := by
  have hset : ∀ v, s.set o.dst v = s.after o.dst v s.st := fun v => by cases hd : o.dst <;> simp [St.set, St.after]
  have hskip : v = .tup [] → st = s.st → K (a.put o.dst undef) w := fun e1 e2 => by
    subst e1 e2
    exact hK hv _ _ (hset _ ▸ h.skip o.dst) fun _ _ => rfl
  unfold stepG at he
  split at he
  · cases he
  · rename_i hg
    rw [guard_rep h hg, if_pos rfl]
    exact .inl (stepD_sound ok h hk he fun hv' val w' hp => hK hv' _ _ (h.after hp _) hp.only)
  · rename_i hg
    rw [guard_rep h hg, if_neg (by simp)]
    simp only [Option.some.injEq, Prod.mk.injEq] at he
    exact hskip he.1.symm he.2.symm
  · rename_i t want b hg
    rw [guard_rep h hg]
    split at he
    · rename_i hb
      subst hb
      rw [if_pos (by simp)]
      exact .inl (stepD_sound ok h hk he fun hv' val w' hp => hK hv' _ _ (h.after hp _) hp.only)
    · rename_i hb
      rw [if_neg (by simpa using hb)]
      simp only [Option.some.injEq, Prod.mk.injEq] at he
      exact hskip he.1.symm he.2.symm
theorem after_next (d : Option Tmp) (v : Slot) (st : Store) : (s.after d v st).next = s.next := by cases d <;> rfl
theorem runOps_sound (ok : EnvOk w0.tr P E) {ops : Array Oper} {Q : Exit → Act → World → Prop} {K : St → Option R} {r : R} : ∀ (l : List Oper) (key : Nat) (s : St) (a : Act) (w : World) (hv : Hv), Rel w0 S0 hv s a w → (∀ j, key ≤ j → hv j = none) →
    runOps E ops key l s K = some r → (∀ hv' s' a' w', Rel w0 S0 hv' s' a' w' → (∀ j, key + 16 * l.length ≤ j → hv' j = none) → s'.next = s.next → K s' = some r → Q .normal a' w') → wpList P ops Q l a w
  | [], key, s, a, w, hv, h, hk, he, hQ => hQ hv s a w h (by simpa using hk) rfl he
  | o :: rest, key, s, a, w, hv, h, hk, he, hQ => by
    unfold runOps runC at he
    unfold wpList
    have hset : ∀ v, s.set o.dst v = s.after o.dst v s.st := fun v => by cases hd : o.dst <;> simp [St.set, St.after]
    split at he
    · rename_i ch hch
      split at he
      · rename_i hg
        obtain ⟨p, hp, hv', val, w', hd, hpost⟩ := choice_sound (key := key) ok h hch (Choice.run_good he)
        have hK := Choice.run_all he p hp
        have hw : Region.wanted o (yielded ops a.tmps) = true := by unfold Region.wanted; rw [hg]
        rw [hw, if_pos rfl]
        refine .inl (hd.wp ?_)
        refine runOps_sound ok rest (key + 16) _ _ w' hv' (h.after hpost _) (fun j hj => by rw [hpost.only j (by omega)]; exact hk j (by omega)) hK fun hv2 s2 a2 w2 g1 g2 g3 g4 => ?_
        exact hQ hv2 s2 a2 w2 g1 (fun j hj => g2 j (by simp only [List.length_cons] at hj; omega)) (g3.trans (after_next _ _ _)) g4
      · cases he
    obtain ⟨v, st, h1, h2⟩ := runG_step (K := fun s' => runOps E ops (key + 16) rest s' K) he
    refine stepG_sound ok h (fun j _ => hk _ (by omega)) h1 fun hv' a' w' h' hon => ?_
    refine runOps_sound ok rest (key + 16) _ a' w' hv' h' (fun j hj => by rw [hon j (by omega)]; exact hk j (by omega)) h2 fun hv2 s2 a2 w2 g1 g2 g3 g4 => ?_
    exact hQ hv2 s2 a2 w2 g1 (fun j hj => g2 j (by simp only [List.length_cons] at hj; omega)) (g3.trans (after_next _ _ _)) g4
end Go.Ev
end
section
set_option linter.unusedVariables false
set_option linter.unusedSimpArgs false
namespace Go.Ev
variable {E : Env} {s s1 s2 : St} {key : Nat} {o : Oper} {st st1 st2 : Store}
theorem get_freeze_eq (st : Store) (j k : Nat) : (st.freeze j).get k = if k = j then (match st.get k with | some (.row e xs) => some (.frow e xs) | x => x) else st.get k := by
  unfold Store.freeze
  split
  · rename_i e xs hg
    rw [get_put]
    by_cases h : k = j
    · subst h; simp [hg]
    · simp [h]
  · rename_i hno
    by_cases h : k = j
    · subst h
      rw [if_pos rfl]
      split
      · rename_i e xs hg; exact absurd hg (hno e xs)
      · rfl
    · simp [h]
theorem put_pw {k j : Nat} {ob : Ob} (h : st1.get k = st2.get k) : (st1.put j ob).get k = (st2.put j ob).get k := by rw [get_put, get_put, h]
theorem erase_pw {k j : Nat} (h : st1.get k = st2.get k) : (st1.erase j).get k = (st2.erase j).get k := by rw [get_erase, get_erase, h]
theorem freeze_pw {k j : Nat} (h : st1.get k = st2.get k) : (st1.freeze j).get k = (st2.freeze j).get k := by rw [get_freeze_eq, get_freeze_eq, h]
theorem freezes_pw {k : Nat} : ∀ (l : List Nat) {st1 st2 : Store}, st1.get k = st2.get k → (st1.freezes l).get k = (st2.freezes l).get k
  | [], _, _, h => h
  | j :: r, _, _, h => freezes_pw r (freeze_pw h)
theorem fz_pw {k : Nat} {b : Bool} {l : List Nat} (h : st1.get k = st2.get k) : (fz st1 b l).get k = (fz st2 b l).get k := by
  unfold fz
  cases b
  · exact h
  · exact freezes_pw l h
theorem get_fz_of {k : Nat} {b : Bool} {l : List Nat} (h : b = false ∨ k ∉ l) : (fz st b l).get k = st.get k := by
  rcases h with rfl | h
  · rfl
  · exact get_fz h
theorem resStore_pw {k : Nat} : ∀ (outs : List OT) (r : OTup outs) (key : Nat) {st1 st2 : Store}, st1.get k = st2.get k → (resStore outs r key st1).get k = (resStore outs r key st2).get k := by
  intro outs r key st1 st2 h
  rw [get_resStore, get_resStore outs r key st2, h]
theorem row_congr {k : Nat} {e : Ty} (h : st1.get k = st2.get k) : st1.row k e = st2.row k e := by unfold Store.row; rw [h]
theorem wrow_congr {k : Nat} {e : Ty} (h : st1.get k = st2.get k) : st1.wrow k e = st2.wrow k e := by unfold Store.wrow; rw [h]
theorem len_congr {k : Nat} (h : st1.get k = st2.get k) : st1.len k = st2.len k := by unfold Store.len; rw [h]
theorem esize_congr {k : Nat} (h : st1.get k = st2.get k) : st1.esize k = st2.esize k := by unfold Store.esize; rw [h]
theorem rows_keys {a : AV} {k : Nat} (h : k ∈ a.rows) : k ∈ a.keys := by cases a <;> first | exact h | (simp [AV.rows] at h)
theorem Slot.rows_keys {a : Slot} {k : Nat} (h : k ∈ a.rows) : k ∈ a.keys := by
  cases a with
  | one a => exact Ev.rows_keys h
  | agg cs =>
    simp only [Slot.rows, Slot.keys, List.mem_flatMap] at h ⊢
    obtain ⟨c, h1, h2⟩ := h
    exact ⟨c, h1, Ev.rows_keys h2⟩
  | tup cs =>
    simp only [Slot.rows, Slot.keys, List.mem_flatMap] at h ⊢
    obtain ⟨c, h1, h2⟩ := h
    exact ⟨c, h1, Ev.rows_keys h2⟩
theorem as_congr {a : AV} {t : Ty} (h : ∀ k ∈ a.keys, st1.get k = st2.get k) : a.as st1 t = a.as st2 t := by
  cases a with
  | own k =>
    have := h k (by simp [AV.keys])
    cases t <;> simp [AV.as, row_congr this]
  | view k sz lo n =>
    have := h k (by simp [AV.keys])
    cases t <;> simp [AV.as, row_congr this]
  | _ => cases t <;> rfl
theorem leaf_congr {t : Ty} {cs : List AV} (h : ∀ k ∈ cs.flatMap AV.keys, st1.get k = st2.get k) : leafOf st1 t cs = leafOf st2 t cs := by
  cases cs with
  | nil => rfl
  | cons c r => simp only [leafOf]; rw [as_congr fun k hk => h k (by simp; exact .inl hk)]
theorem leaf_suffix {t : Ty} {cs r : List AV} {x : t.den} (h : leafOf st t cs = some (x, r)) : ∃ p, cs = p ++ r := by
  cases cs with
  | nil => cases h
  | cons c l =>
    simp only [leafOf, Option.map_eq_some_iff, Prod.mk.injEq] at h
    obtain ⟨_, _, _, rfl⟩ := h
    exact ⟨[c], rfl⟩
theorem gather_suffix : ∀ {t : Ty} {cs r : List AV} {x : t.den}, gather st t cs = some (x, r) → ∃ p, cs = p ++ r
  | .unit, cs, r, x, h => by
    simp only [gather, Option.some.injEq, Prod.mk.injEq] at h
    exact ⟨[], by simp [h.2]⟩
  | .one a, cs, r, x, h => gather_suffix (t := a) (by simpa only [gather] using h)
  | .pair a b, cs, r, x, h => by
    simp only [gather] at h
    split at h
    · rename_i y r1 h1
      split at h
      · rename_i z r2 h2
        simp only [Option.some.injEq, Prod.mk.injEq] at h
        obtain ⟨_, rfl⟩ := h
        obtain ⟨p, rfl⟩ := gather_suffix h1
        obtain ⟨q, rfl⟩ := gather_suffix h2
        exact ⟨p ++ q, by simp⟩
      · cases h
    · cases h
  | .int _, cs, r, x, h => leaf_suffix (by simpa only [gather] using h)
  | .bool, cs, r, x, h => leaf_suffix (by simpa only [gather] using h)
  | .f64, cs, r, x, h => leaf_suffix (by simpa only [gather] using h)
  | .str, cs, r, x, h => leaf_suffix (by simpa only [gather] using h)
  | .sl _, cs, r, x, h => leaf_suffix (by simpa only [gather] using h)
  | .box _, cs, r, x, h => leaf_suffix (by simpa only [gather] using h)
  | .mp _ _, cs, r, x, h => leaf_suffix (by simpa only [gather] using h)
  | .trie, cs, r, x, h => leaf_suffix (by simpa only [gather] using h)
theorem gather_congr : ∀ {t : Ty} {cs : List AV}, (∀ k ∈ cs.flatMap AV.keys, st1.get k = st2.get k) → gather st1 t cs = gather st2 t cs
  | .unit, _, _ => rfl
  | .one a, cs, h => by simp only [gather]; exact gather_congr h
  | .pair a b, cs, h => by
    simp only [gather]
    rw [gather_congr (t := a) h]
    cases hg : gather st2 a cs with
    | none => rfl
    | some p =>
      obtain ⟨x, r⟩ := p
      obtain ⟨q, rfl⟩ := gather_suffix hg
      simp only
      rw [gather_congr (t := b) fun k hk => h k (by simp at hk ⊢; exact .inr hk)]
  | .int _, cs, h => by simp only [gather]; exact leaf_congr h
  | .bool, cs, h => by simp only [gather]; exact leaf_congr h
  | .f64, cs, h => by simp only [gather]; exact leaf_congr h
  | .str, cs, h => by simp only [gather]; exact leaf_congr h
  | .sl _, cs, h => by simp only [gather]; exact leaf_congr h
  | .box _, cs, h => by simp only [gather]; exact leaf_congr h
  | .mp _ _, cs, h => by simp only [gather]; exact leaf_congr h
  | .trie, cs, h => by simp only [gather]; exact leaf_congr h
theorem slot_congr {a : Slot} {t : Ty} (h : ∀ k ∈ a.keys, st1.get k = st2.get k) : a.as st1 t = a.as st2 t := by
  cases a with
  | one a => exact as_congr h
  | agg cs => simp only [Slot.as]; rw [gather_congr h]
  | tup l => rfl
theorem lenOf_congr {a : AV} (h : ∀ k ∈ a.keys, st1.get k = st2.get k) : lenOfAV st1 a = lenOfAV st2 a := by
  cases a with
  | own k => exact len_congr (h k (by simp [AV.keys]))
  | pure t x => cases t <;> rfl
  | _ => rfl
theorem eqE_congr {T : TypeId} {x y : Slot} (hx : ∀ k ∈ x.keys, st1.get k = st2.get k) (hy : ∀ k ∈ y.keys, st1.get k = st2.get k) : eqE E T x y st1 = eqE E T x y st2 := by
  unfold eqE
  cases E.eqt T with
  | none => rfl
  | some u => simp only; rw [slot_congr hx, slot_congr hy]
theorem binE_congr {op : BinOp} {T : TypeId} {x y : Slot} (hx : ∀ k ∈ x.keys, st1.get k = st2.get k) (hy : ∀ k ∈ y.keys, st1.get k = st2.get k) : binE E op T x y st1 = binE E op T x y st2 := by
  unfold binE
  rw [eqE_congr hx hy]
theorem loadE_congr {T : TypeId} {a : AV} (h : ∀ k ∈ a.keys, st1.get k = st2.get k) : loadE E T a st1 = loadE E T a st2 := by
  cases a with
  | ref k i sz off => simp only [loadE]; rw [h k (by simp [AV.keys])]
  | _ => rfl
theorem args_congr : ∀ {ts : List Ty} {as : List Slot}, (∀ k ∈ as.flatMap Slot.keys, st1.get k = st2.get k) → argsAs st1 ts as = argsAs st2 ts as
  | [], [], _ => rfl
  | [], _ :: _, _ => rfl
  | _ :: _, [], _ => rfl
  | t :: ts, a :: as, h => by
    simp only [argsAs]
    rw [slot_congr (a := a) (t := t) fun k hk => h k (by simp; exact .inl hk), args_congr (ts := ts) (as := as) fun k hk => h k (by simp at hk ⊢; exact .inr hk)]
theorem asDeep_congr {t : Ty} {k : Nat} (h : st1.get k = st2.get k) : asDeep st1 t k = asDeep st2 t k := by unfold asDeep; rw [h]
theorem asBox_congr {t : Ty} {k : Nat} (h : st1.get k = st2.get k) : asBox st1 t k = asBox st2 t k := by unfold asBox; rw [h]
theorem leafC_congr {t : Ty} {c : AV} (h : ∀ k ∈ c.keys, st1.get k = st2.get k) : leafC st1 t c = leafC st2 t c := by
  unfold leafC
  rw [as_congr (t := t) h]
  split
  · rfl
  · split
    · rename_i k _
      have hk := h k (by simp [AV.keys])
      split
      · unfold Store.map
        rw [hk, asDeep_congr hk]
      · exact asDeep_congr hk
    · rename_i k _
      exact asBox_congr (h k (by simp [AV.keys]))
    · rfl
theorem gatherL_suffix : ∀ {t : Ty} {cs r : List AV} {x : t.den}, gatherL st1 t cs = some (x, r) → ∃ p, cs = p ++ r
  | .unit, cs, r, x, h => by
    simp only [gatherL, Option.some.injEq, Prod.mk.injEq] at h
    exact ⟨[], by simp [h.2]⟩
  | .one a, cs, r, x, h => gatherL_suffix (t := a) (by simpa only [gatherL] using h)
  | .pair a b, cs, r, x, h => by
    simp only [gatherL] at h
    split at h
    · rename_i y r1 h1
      split at h
      · rename_i z r2 h2
        simp only [Option.some.injEq, Prod.mk.injEq] at h
        obtain ⟨_, rfl⟩ := h
        obtain ⟨p, rfl⟩ := gatherL_suffix h1
        obtain ⟨q, rfl⟩ := gatherL_suffix h2
        exact ⟨p ++ q, by simp⟩
      · cases h
    · cases h
  | .int k, [], r, x, h => by simp [gatherL] at h
  | .int k, c :: cs, r, x, h => by
    simp only [gatherL, Option.map_eq_some_iff, Prod.mk.injEq] at h
    obtain ⟨_, _, _, rfl⟩ := h
    exact ⟨[c], rfl⟩
  | .bool, [], r, x, h => by simp [gatherL] at h
  | .bool, c :: cs, r, x, h => by
    simp only [gatherL, Option.map_eq_some_iff, Prod.mk.injEq] at h
    obtain ⟨_, _, _, rfl⟩ := h
    exact ⟨[c], rfl⟩
  | .f64, [], r, x, h => by simp [gatherL] at h
  | .f64, c :: cs, r, x, h => by
    simp only [gatherL, Option.map_eq_some_iff, Prod.mk.injEq] at h
    obtain ⟨_, _, _, rfl⟩ := h
    exact ⟨[c], rfl⟩
  | .str, [], r, x, h => by simp [gatherL] at h
  | .str, c :: cs, r, x, h => by
    simp only [gatherL, Option.map_eq_some_iff, Prod.mk.injEq] at h
    obtain ⟨_, _, _, rfl⟩ := h
    exact ⟨[c], rfl⟩
  | .sl e, [], r, x, h => by simp [gatherL] at h
  | .sl e, c :: cs, r, x, h => by
    simp only [gatherL, Option.map_eq_some_iff, Prod.mk.injEq] at h
    obtain ⟨_, _, _, rfl⟩ := h
    exact ⟨[c], rfl⟩
  | .mp k v, [], r, x, h => by simp [gatherL] at h
  | .mp k v, c :: cs, r, x, h => by
    simp only [gatherL, Option.map_eq_some_iff, Prod.mk.injEq] at h
    obtain ⟨_, _, _, rfl⟩ := h
    exact ⟨[c], rfl⟩
  | .trie, [], r, x, h => by simp [gatherL] at h
  | .trie, c :: cs, r, x, h => by
    simp only [gatherL, Option.map_eq_some_iff, Prod.mk.injEq] at h
    obtain ⟨_, _, _, rfl⟩ := h
    exact ⟨[c], rfl⟩
  | .box a, [], r, x, h => by simp [gatherL] at h
  | .box a, c :: cs, r, x, h => by
    simp only [gatherL, Option.map_eq_some_iff, Prod.mk.injEq] at h
    obtain ⟨_, _, _, rfl⟩ := h
    exact ⟨[c], rfl⟩
theorem gatherL_congr : ∀ {t : Ty} {cs : List AV}, (∀ k ∈ cs.flatMap AV.keys, st1.get k = st2.get k) → gatherL st1 t cs = gatherL st2 t cs
  | .unit, _, _ => rfl
  | .one a, cs, h => by simp only [gatherL]; exact gatherL_congr h
  | .pair a b, cs, h => by
    simp only [gatherL]
    rw [← gatherL_congr (t := a) h]
    cases hg : gatherL st1 a cs with
    | none => rfl
    | some p =>
      obtain ⟨x, r⟩ := p
      obtain ⟨q, rfl⟩ := gatherL_suffix hg
      simp only
      rw [gatherL_congr (t := b) fun k hk => h k (by simp at hk ⊢; exact .inr hk)]
  | .int k, [], _ => rfl
  | .int k, c :: cs, h => by simp only [gatherL]; rw [leafC_congr fun k hk => h k (by simp; exact .inl hk)]
  | .bool, [], _ => rfl
  | .bool, c :: cs, h => by simp only [gatherL]; rw [leafC_congr fun k hk => h k (by simp; exact .inl hk)]
  | .f64, [], _ => rfl
  | .f64, c :: cs, h => by simp only [gatherL]; rw [leafC_congr fun k hk => h k (by simp; exact .inl hk)]
  | .str, [], _ => rfl
  | .str, c :: cs, h => by simp only [gatherL]; rw [leafC_congr fun k hk => h k (by simp; exact .inl hk)]
  | .sl e, [], _ => rfl
  | .sl e, c :: cs, h => by simp only [gatherL]; rw [leafC_congr fun k hk => h k (by simp; exact .inl hk)]
  | .mp k v, [], _ => rfl
  | .mp k v, c :: cs, h => by simp only [gatherL]; rw [leafC_congr fun k hk => h k (by simp; exact .inl hk)]
  | .trie, [], _ => rfl
  | .trie, c :: cs, h => by simp only [gatherL]; rw [leafC_congr fun k hk => h k (by simp; exact .inl hk)]
  | .box a, [], _ => rfl
  | .box a, c :: cs, h => by simp only [gatherL]; rw [leafC_congr fun k hk => h k (by simp; exact .inl hk)]
theorem reach1 {l : List Nat} {k : Nat} (h : k ∈ l) : k ∈ reach st1 1 l := by simp only [reach, List.mem_append]; exact .inl h
theorem reach1' {l : List Nat} {k j : Nat} (h : k ∈ l) (hj : j ∈ leads st1 k) : j ∈ reach st1 1 l := by simp only [reach, List.mem_append, List.mem_flatMap]; exact .inr ⟨k, h, hj⟩
theorem reach1_mono {l m : List Nat} (h : ∀ k ∈ l, k ∈ m) : ∀ k ∈ reach st1 1 l, k ∈ reach st1 1 m := fun k hk => by
  simp only [reach, List.mem_append, List.mem_flatMap] at hk ⊢
  rcases hk with hk | ⟨j, hj, hk⟩
  · exact .inl (h k hk)
  · exact .inr ⟨j, h j hj, hk⟩
theorem gatherC_suffix : ∀ {t : Ty} {cs r : List AV} {x : t.den}, gatherC st1 t cs = some (x, r) → ∃ p, cs = p ++ r
  | .unit, cs, r, x, h => by
    simp only [gatherC, Option.some.injEq, Prod.mk.injEq] at h
    exact ⟨[], by simp [h.2]⟩
  | .one a, cs, r, x, h => gatherC_suffix (t := a) (by simpa only [gatherC] using h)
  | .pair a b, cs, r, x, h => by
    simp only [gatherC] at h
    split at h
    · rename_i y r1 h1
      split at h
      · rename_i z r2 h2
        simp only [Option.some.injEq, Prod.mk.injEq] at h
        obtain ⟨_, rfl⟩ := h
        obtain ⟨p, rfl⟩ := gatherC_suffix h1
        obtain ⟨q, rfl⟩ := gatherC_suffix h2
        exact ⟨p ++ q, by simp⟩
      · cases h
    · cases h
  | .int k, [], r, x, h => by simp [gatherC] at h
  | .int k, c :: cs, r, x, h => by
    simp only [gatherC, Option.map_eq_some_iff, Prod.mk.injEq] at h
    obtain ⟨_, _, _, rfl⟩ := h
    exact ⟨[c], rfl⟩
  | .bool, [], r, x, h => by simp [gatherC] at h
  | .bool, c :: cs, r, x, h => by
    simp only [gatherC, Option.map_eq_some_iff, Prod.mk.injEq] at h
    obtain ⟨_, _, _, rfl⟩ := h
    exact ⟨[c], rfl⟩
  | .f64, [], r, x, h => by simp [gatherC] at h
  | .f64, c :: cs, r, x, h => by
    simp only [gatherC, Option.map_eq_some_iff, Prod.mk.injEq] at h
    obtain ⟨_, _, _, rfl⟩ := h
    exact ⟨[c], rfl⟩
  | .str, [], r, x, h => by simp [gatherC] at h
  | .str, c :: cs, r, x, h => by
    simp only [gatherC, Option.map_eq_some_iff, Prod.mk.injEq] at h
    obtain ⟨_, _, _, rfl⟩ := h
    exact ⟨[c], rfl⟩
  | .sl e, [], r, x, h => by simp [gatherC] at h
  | .sl e, c :: cs, r, x, h => by
    simp only [gatherC, Option.map_eq_some_iff, Prod.mk.injEq] at h
    obtain ⟨_, _, _, rfl⟩ := h
    exact ⟨[c], rfl⟩
  | .mp k v, [], r, x, h => by simp [gatherC] at h
  | .mp k v, c :: cs, r, x, h => by
    simp only [gatherC, Option.map_eq_some_iff, Prod.mk.injEq] at h
    obtain ⟨_, _, _, rfl⟩ := h
    exact ⟨[c], rfl⟩
  | .trie, [], r, x, h => by simp [gatherC] at h
  | .trie, c :: cs, r, x, h => by
    simp only [gatherC, Option.map_eq_some_iff, Prod.mk.injEq] at h
    obtain ⟨_, _, _, rfl⟩ := h
    exact ⟨[c], rfl⟩
  | .box a, [], r, x, h => by simp [gatherC] at h
  | .box a, c :: cs, r, x, h => by
    refine ⟨[c], ?_⟩
    simp only [gatherC] at h
    split at h
    · simp only [Option.some.injEq, Prod.mk.injEq] at h
      rw [h.2]; rfl
    · split at h
      · split at h
        · split at h
          · simp only [Option.some.injEq, Prod.mk.injEq] at h
            rw [h.2]; rfl
          · cases h
        · cases h
      · cases h
theorem gatherC_congr : ∀ {t : Ty} {cs : List AV}, (∀ k ∈ reach st1 1 (cs.flatMap AV.keys), st1.get k = st2.get k) → gatherC st1 t cs = gatherC st2 t cs
  | .unit, _, _ => rfl
  | .one a, cs, h => by simp only [gatherC]; exact gatherC_congr h
  | .pair a b, cs, h => by
    simp only [gatherC]
    rw [← gatherC_congr (t := a) h]
    cases hg : gatherC st1 a cs with
    | none => rfl
    | some p =>
      obtain ⟨x, r⟩ := p
      obtain ⟨q, rfl⟩ := gatherC_suffix hg
      simp only
      rw [gatherC_congr (t := b) fun k hk => h k (reach1_mono (fun j hj => by simp at hj ⊢; exact .inr hj) k hk)]
  | .int k, [], _ => rfl
  | .int k, c :: cs, h => by simp only [gatherC]; rw [leafC_congr fun k hk => h k (reach1 (by simp; exact .inl hk))]
  | .bool, [], _ => rfl
  | .bool, c :: cs, h => by simp only [gatherC]; rw [leafC_congr fun k hk => h k (reach1 (by simp; exact .inl hk))]
  | .f64, [], _ => rfl
  | .f64, c :: cs, h => by simp only [gatherC]; rw [leafC_congr fun k hk => h k (reach1 (by simp; exact .inl hk))]
  | .str, [], _ => rfl
  | .str, c :: cs, h => by simp only [gatherC]; rw [leafC_congr fun k hk => h k (reach1 (by simp; exact .inl hk))]
  | .sl e, [], _ => rfl
  | .sl e, c :: cs, h => by simp only [gatherC]; rw [leafC_congr fun k hk => h k (reach1 (by simp; exact .inl hk))]
  | .mp k v, [], _ => rfl
  | .mp k v, c :: cs, h => by simp only [gatherC]; rw [leafC_congr fun k hk => h k (reach1 (by simp; exact .inl hk))]
  | .trie, [], _ => rfl
  | .trie, c :: cs, h => by simp only [gatherC]; rw [leafC_congr fun k hk => h k (reach1 (by simp; exact .inl hk))]
  | .box a, [], _ => rfl
  | .box a, c :: cs, h => by
    simp only [gatherC]
    rw [leafC_congr fun k hk => h k (reach1 (by simp; exact .inl hk))]
    split
    · rfl
    · split
      · rename_i k _
        have hk := h k (reach1 (by simp [AV.keys]))
        rw [← hk]
        split
        · rename_i cs' hg
          rw [gatherL_congr (t := a) fun j hj => h j (reach1' (k := k) (by simp [AV.keys]) (by unfold leads; rw [hg]; exact hj))]
        · rfl
      · rfl
theorem slotC_congr {t : Ty} {a : Slot} (h : ∀ k ∈ reach st1 1 a.keys, st1.get k = st2.get k) : a.asC st1 t = a.asC st2 t := by
  unfold Slot.asC
  rw [slot_congr (t := t) fun k hk => h k (reach1 hk)]
  split
  · rfl
  · cases a with
    | one c =>
      have := gatherC_congr (st1 := st1) (st2 := st2) (t := t) (cs := [c]) (by simpa [Slot.keys] using h)
      simp only [this]
    | agg cs =>
      have := gatherC_congr (st1 := st1) (st2 := st2) (t := t) (cs := cs) (by simpa [Slot.keys] using h)
      simp only [this]
    | tup l => rfl
theorem argsC_congr : ∀ {ts : List Ty} {as : List Slot}, (∀ k ∈ reach st1 1 (as.flatMap Slot.keys), st1.get k = st2.get k) → argsAsC st1 ts as = argsAsC st2 ts as
  | [], [], _ => rfl
  | [], _ :: _, _ => rfl
  | _ :: _, [], _ => rfl
  | t :: ts, a :: as, h => by
    simp only [argsAsC]
    rw [slotC_congr (a := a) (t := t) fun k hk => h k (reach1_mono (fun j hj => by simp; exact .inl hj) k hk), argsC_congr (ts := ts) (as := as) fun k hk => h k (reach1_mono (fun j hj => by simp at hj ⊢; exact .inr hj) k hk)]
theorem flatMap_eq {α β : Type} {f g : α → List β} : ∀ {l : List α}, (∀ x ∈ l, f x = g x) → l.flatMap f = l.flatMap g
  | [], _ => rfl
  | x :: r, h => by
    simp only [List.flatMap_cons]
    rw [h x (by simp), flatMap_eq fun y hy => h y (by simp [hy])]
theorem reach_base {k : Nat} : ∀ {n : Nat} {l : List Nat}, k ∈ l → k ∈ reach st n l
  | 0, _, h => h
  | n + 1, _, h => List.mem_append.2 (.inl h)
theorem reach_mono {k : Nat} : ∀ {n : Nat} {l m : List Nat}, (∀ j ∈ l, j ∈ m) → k ∈ reach st n l → k ∈ reach st n m
  | 0, _, _, h, hk => h k hk
  | n + 1, l, m, h, hk => by
    simp only [reach, List.mem_append] at hk ⊢
    rcases hk with hk | hk
    · exact .inl (h k hk)
    · refine .inr (reach_mono (fun j hj => ?_) hk)
      obtain ⟨i, h1, h2⟩ := List.mem_flatMap.1 hj
      exact List.mem_flatMap.2 ⟨i, h i h1, h2⟩
theorem reach_congr : ∀ {n : Nat} {l : List Nat}, (∀ k ∈ reach st1 n l, st1.get k = st2.get k) → reach st2 n l = reach st1 n l
  | 0, _, _ => rfl
  | n + 1, l, h => by
    have hl : ∀ k ∈ l, st1.get k = st2.get k := fun k hk => h k (List.mem_append.2 (.inl hk))
    have he : l.flatMap (leads st2) = l.flatMap (leads st1) := flatMap_eq fun k hk => by unfold leads; rw [hl k hk]
    simp only [reach] at h ⊢
    rw [he, reach_congr fun k hk => h k (List.mem_append.2 (.inr hk))]
theorem isMove_call {o : Oper} (h : isCall o = true) : isMove o = false := by
  unfold isCall at h
  unfold isMove
  split at h
  · rename_i c ho
    rw [ho]
  · cases h
theorem opKeys_touch (hm : isMove o = false) {k : Nat} (h : k ∈ opKeys o s) : k ∈ touch o s := by
  unfold touch
  rw [hm, cond_false]
  cases isCall o
  · exact h
  · exact reach_base h
structure Same (o : Oper) (s1 s2 : St) : Prop where
  ev : ∀ x ∈ o.op.operands.toList, s2.ev x = s1.ev x
  st : ∀ k ∈ touch o s1, s1.st.get k = s2.st.get k
theorem Same.opk (h : Same o s1 s2) : opKeys o s2 = opKeys o s1 := by
  unfold Ev.opKeys
  exact flatMap_eq fun x hx => by rw [h.ev x hx]
theorem Same.tch (h : Same o s1 s2) : touch o s2 = touch o s1 := by
  have hs := h.st
  unfold Ev.touch at hs ⊢
  rw [h.opk]
  cases hm : isMove o with
  | true => rfl
  | false =>
  rw [hm] at hs
  simp only [cond_false] at hs ⊢
  cases hc : isCall o with
  | false => rfl
  | true =>
    rw [hc] at hs
    exact reach_congr hs
theorem Same.symm (h : Same o s1 s2) : Same o s2 s1 := ⟨fun x hx => (h.ev x hx).symm, fun k hk => (h.st k (h.tch ▸ hk)).symm⟩
theorem Same.keys (h : Same o s1 s2) {x : Operand} (hx : x ∈ o.op.operands.toList) {sl : Slot} (hs : s1.ev x = some sl) (hm : isMove o = false := by first | assumption | simp [isMove, *]) : ∀ k ∈ sl.keys, s1.st.get k = s2.st.get k := fun k hk =>
  h.st k (opKeys_touch hm (by unfold opKeys; exact List.mem_flatMap.2 ⟨x, hx, by rw [hs]; exact hk⟩))
theorem touch_mem {x : Operand} (hx : x ∈ o.op.operands.toList) {sl : Slot} (hs : s.ev x = some sl) {k : Nat} (hk : k ∈ sl.keys) (hm : isMove o = false := by first | assumption | simp [isMove, *]) : k ∈ touch o s :=
  opKeys_touch hm (by unfold opKeys; exact List.mem_flatMap.2 ⟨x, hx, by rw [hs]; exact hk⟩)
theorem Same.one (h : Same o s1 s2) {x : Operand} (hx : x ∈ o.op.operands.toList) : s2.one x = s1.one x := by unfold St.one; rw [h.ev x hx]
theorem Same.int (h : Same o s1 s2) {x : Operand} (hx : x ∈ o.op.operands.toList) : s2.int x = s1.int x := by unfold St.int; rw [h.ev x hx]
theorem Same.bool (h : Same o s1 s2) {x : Operand} (hx : x ∈ o.op.operands.toList) : s2.bool x = s1.bool x := by unfold St.bool; rw [h.ev x hx]
theorem one_ev {x : Operand} {a : AV} (h : s.one x = some a) : s.ev x = some (.one a) := by
  unfold St.one at h
  split at h
  · rename_i b hb; injection h with h; subst h; exact hb
  · cases h
theorem Same.okeys (h : Same o s1 s2) {x : Operand} (hx : x ∈ o.op.operands.toList) {a : AV} (hs : s1.one x = some a) (hm : isMove o = false := by first | assumption | simp [isMove, *]) : ∀ k ∈ a.keys, s1.st.get k = s2.st.get k := h.keys hx (one_ev hs)
theorem evs_congr {l : List Operand} (h : ∀ x ∈ l, s2.ev x = s1.ev x) : s2.evs l = s1.evs l := by
  induction l with
  | nil => rfl
  | cons x r ih =>
    simp only [St.evs]
    rw [h x (by simp), ih fun y hy => h y (by simp [hy])]
theorem evs_mem {s : St} : ∀ {l : List Operand} {as : List Slot}, s.evs l = some as → ∀ sl ∈ as, ∃ x ∈ l, s.ev x = some sl
  | [], as, h, sl, hs => by
    simp only [St.evs, Option.some.injEq] at h
    subst h
    cases hs
  | x :: r, as, h, sl, hs => by
    simp only [St.evs] at h
    split at h
    · rename_i a ha
      split at h
      · rename_i l' hl
        injection h with h
        subst h
        rcases List.mem_cons.1 hs with rfl | hs
        · exact ⟨x, by simp, ha⟩
        · obtain ⟨y, h1, h2⟩ := evs_mem hl sl hs
          exact ⟨y, by simp [h1], h2⟩
      · cases h
    · cases h
theorem buildParts_congr {T : TypeId} : ∀ {parts : List (Nat × Operand)} {cs : List AV}, (∀ p ∈ parts, s2.ev p.2 = s1.ev p.2) → buildParts E T s2 parts cs = buildParts E T s1 parts cs
  | [], _, _ => rfl
  | (i, x) :: r, cs, h => by
    simp only [buildParts]
    rw [show s2.ev x = s1.ev x from h (i, x) (by simp)]
    have ih : ∀ cs, buildParts E T s2 r cs = buildParts E T s1 r cs := fun cs => buildParts_congr fun p hp => h p (by simp [hp])
    simp only [ih]
theorem partsAs_congr {e : Ty} : ∀ {parts : List (Nat × Operand)} {n : Nat}, (∀ p ∈ parts, s2.ev p.2 = s1.ev p.2) → (∀ p ∈ parts, ∀ sl, s1.ev p.2 = some sl → ∀ k ∈ sl.keys, s1.st.get k = s2.st.get k) → partsAs s2 e n parts = partsAs s1 e n parts
  | [], _, _, _ => rfl
  | (i, x) :: r, n, h, hk => by
    simp only [partsAs]
    rw [show s2.ev x = s1.ev x from h (i, x) (by simp), partsAs_congr (parts := r) (fun p hp => h p (by simp [hp])) (fun p hp => hk p (by simp [hp]))]
    cases hx : s1.ev x with
    | none => rfl
    | some sl =>
      simp only
      rw [slot_congr (st1 := s1.st) (st2 := s2.st) (hk (i, x) (by simp) sl hx)]
theorem partsRows_congr : ∀ {parts : List (Nat × Operand)}, (∀ p ∈ parts, s2.ev p.2 = s1.ev p.2) → partsRows s2 parts = partsRows s1 parts
  | [], _ => rfl
  | (i, x) :: r, h => by
    simp only [partsRows]
    rw [show s2.ev x = s1.ev x from h (i, x) (by simp), partsRows_congr fun p hp => h p (by simp [hp])]
theorem partsRows_touch : ∀ {parts : List (Nat × Operand)} {k : Nat}, k ∈ partsRows s parts → ∃ p ∈ parts, ∃ sl, s.ev p.2 = some sl ∧ k ∈ sl.keys
  | [], _, h => by cases h
  | (i, x) :: r, k, h => by
    simp only [partsRows, List.mem_append] at h
    rcases h with h | h
    · split at h
      · rename_i sl hs
        exact ⟨(i, x), by simp, sl, hs, Slot.rows_keys h⟩
      · cases h
    · obtain ⟨p, h1, h2⟩ := partsRows_touch h
      exact ⟨p, by simp [h1], h2⟩
theorem bnd_congr {x : Option Operand} {d : Int} (h : ∀ y, x = some y → s2.int y = s1.int y) : bnd s2 x d = bnd s1 x d := by
  cases x with
  | none => rfl
  | some y => simp only [bnd]; rw [h y rfl]
end Go.Ev
end
section
set_option linter.unusedVariables false
set_option linter.unusedSimpArgs false
namespace Go.Ev
variable {E : Env} {s s1 s2 : St} {key : Nat} {o : Oper} {st st1 st2 : Store}
theorem storeE_congr {T : TypeId} {a : AV} {v : Slot} (ha : ∀ k ∈ a.keys, st1.get k = st2.get k) (hv : ∀ k ∈ v.keys, st1.get k = st2.get k) {r : Store} (he : storeE E T a v st1 = some r) : ∃ r', storeE E T a v st2 = some r' ∧ ∀ k, st1.get k = st2.get k → r.get k = r'.get k := by
  have hs : ∀ t, v.as st2 t = v.as st1 t := fun t => (slot_congr hv).symm
  unfold storeE at he ⊢
  simp only [hs]
  split at he
  · rename_i j i sz off
    rw [← ha j (by simp [AV.keys])]
    split at he
    · split at he
      · split at he
        · split at he
          · rename_i hc
            injection he with he
            subst he
            exact ⟨_, by rw [if_pos hc], fun k h => put_pw h⟩
          · cases he
        · cases he
      · cases he
    · split at he
      · rename_i u hu
        split at he
        · split at he
          · rename_i hc
            obtain ⟨z, hz, rfl⟩ := Option.map_eq_some_iff.1 he
            exact ⟨_, by rw [if_pos hc, hz]; rfl, fun k h => put_pw (fz_pw (b := u.hasSl) h)⟩
          · cases he
        · cases he
      · cases he
    · cases he
  · cases he
theorem sliceE_congr {e : Ty} {a : AV} {len : Nat} {l h : Int} (ha : ∀ k ∈ a.keys, st1.get k = st2.get k) {c : Bool} {v : Slot} {r : Store} (he : sliceE st1 e a len l h = some (.val c v r)) : r = st1 ∧ sliceE st2 e a len l h = some (.val c v st2) := by
  unfold sliceE at he ⊢
  split at he
  · split at he
    · rename_i hc
      simp only [Option.some.injEq, Eff.val.injEq] at he
      obtain ⟨rfl, rfl, rfl⟩ := he
      exact ⟨rfl, by simp [hc]⟩
    · cases he
  · simp only [Option.some.injEq, Eff.val.injEq] at he
    obtain ⟨rfl, rfl, rfl⟩ := he
    exact ⟨rfl, rfl⟩
  · rename_i k
    rw [esize_congr (ha k (by simp [AV.keys]))] at he
    split at he
    · rename_i hc
      simp only [Option.some.injEq, Eff.val.injEq] at he
      obtain ⟨rfl, rfl, rfl⟩ := he
      exact ⟨rfl, by simp [hc]⟩
    · cases he
  · split at he
    · rename_i hc
      simp only [Option.some.injEq, Eff.val.injEq] at he
      obtain ⟨rfl, rfl, rfl⟩ := he
      exact ⟨rfl, by simp [hc]⟩
    · cases he
  · cases he
theorem indexE_congr {e : Ty} {a : AV} {i : Int} (ha : ∀ k ∈ a.keys, st1.get k = st2.get k) {c : Bool} {v : Slot} {r : Store} (he : indexE st1 e a i = some (.val c v r)) : r = st1 ∧ indexE st2 e a i = some (.val c v st2) := by
  unfold indexE at he ⊢
  split at he
  · rename_i k
    have hk := ha k (by simp [AV.keys])
    rw [len_congr hk, esize_congr hk] at he
    split at he
    · rename_i n hn
      try simp only [hn]
      split at he
      · rename_i hc
        simp only [Option.some.injEq, Eff.val.injEq] at he
        obtain ⟨rfl, rfl, rfl⟩ := he
        exact ⟨rfl, by simp [hc]⟩
      · cases he
    · cases he
  · split at he
    · rename_i hc
      simp only [Option.some.injEq, Eff.val.injEq] at he
      obtain ⟨rfl, rfl, rfl⟩ := he
      exact ⟨rfl, by simp [hc]⟩
    · cases he
  · split at he
    · rename_i hc
      simp only [Option.some.injEq, Eff.val.injEq] at he
      obtain ⟨rfl, rfl, rfl⟩ := he
      exact ⟨rfl, by simp [hc]⟩
    · cases he
  · cases he
theorem convE_congr {src dst : TypeId} {x : Slot} {c : Bool} {v : Slot} {r : Store} (he : convE E src dst x st1 = some (.val c v r)) : r = st1 ∧ convE E src dst x st2 = some (.val c v st2) := by
  unfold convE at he ⊢
  split at he
  · cases he
  · split at he
    · split at he
      · simp only [Option.some.injEq, Eff.val.injEq] at he
        obtain ⟨rfl, rfl, rfl⟩ := he
        exact ⟨rfl, rfl⟩
      · simp only [Option.some.injEq, Eff.val.injEq] at he
        obtain ⟨rfl, rfl, rfl⟩ := he
        exact ⟨rfl, rfl⟩
      · cases he
    · split at he
      · simp only [Option.some.injEq, Eff.val.injEq] at he
        obtain ⟨rfl, rfl, rfl⟩ := he
        exact ⟨rfl, rfl⟩
      · cases he
    · cases he
theorem appendE_congr {e : Ty} {by_ : Nat} {a b : AV} (ha : ∀ k ∈ a.keys, st1.get k = st2.get k) (hb : ∀ k ∈ b.keys, st1.get k = st2.get k) {c : Bool} {v : Slot} {r : Store} (he : appendE st1 key e by_ a b = some (.val c v r)) :
    ∃ r', appendE st2 key e by_ a b = some (.val c v r') ∧ ∀ k, st1.get k = st2.get k → r.get k = r'.get k := by
  unfold appendE at he ⊢
  rw [as_congr hb] at he
  split at he
  · cases he
  · rename_i ys hys
    try simp only [hys]
    split at he
    · simp only [Option.some.injEq, Eff.val.injEq] at he
      obtain ⟨rfl, rfl, rfl⟩ := he
      exact ⟨_, rfl, fun k h => put_pw h⟩
    · rename_i j
      have hj := ha j (by simp [AV.keys])
      rw [wrow_congr hj] at he
      split at he
      · cases he
      · rename_i hc
        split at he
        · rename_i xs hxs
          simp only [Option.some.injEq, Eff.val.injEq] at he
          obtain ⟨rfl, rfl, rfl⟩ := he
          exact ⟨_, by first | (simp only [hc, hxs]; done) | (simp only [hc, hxs]; rfl) | rfl, fun k h => put_pw (erase_pw h)⟩
        · cases he
    · rename_i j sz lo n
      have hj := ha j (by simp [AV.keys])
      rw [wrow_congr hj] at he
      split at he
      · cases he
      · rename_i hc
        split at he
        · rename_i hsz
          split at he
          · rename_i xs hxs
            simp only [Option.some.injEq, Eff.val.injEq] at he
            obtain ⟨rfl, rfl, rfl⟩ := he
            exact ⟨_, by first | (simp only [hc, hxs, if_pos hsz]; done) | (simp only [hc, hxs, if_pos hsz]; rfl) | rfl, fun k h => put_pw (erase_pw h)⟩
          · cases he
        · cases he
    · cases he
theorem capKeys_congr (h : Same o s1 s2) (hmv : isMove o = false) : ∀ (l : List Operand) {ks : List Nat}, (∀ x ∈ l, x ∈ o.op.operands.toList) → capKeys s1 l = some ks → capKeys s2 l = some ks
  | [], ks, _, he => he
  | x :: r, ks, hm, he => by
    simp only [capKeys] at he ⊢
    have hx := hm x List.mem_cons_self
    rw [h.one hx]
    split at he
    · rename_i k hk
      have hsame : s1.st.get k = s2.st.get k := by
        have hev : s1.ev x = some (.one (.ref k 0 0 0)) := by
          unfold St.one at hk
          split at hk
          · rename_i a ha
            injection hk with hk
            subst hk
            exact ha
          · cases hk
        exact (h.keys hx hev hmv) k (by simp [Slot.keys, AV.keys])
      try rw [hk]
      try simp only []
      rw [← hsame]
      split at he
      · rename_i cs hg
        try rw [hg]
        try simp only []
        split at he
        · rename_i m hmm
          rw [capKeys_congr h hmv r (fun y hy => hm y (List.mem_cons_of_mem _ hy)) hmm]
          exact he
        · cases he
      · cases he
    · cases he
theorem map_congr {k : Nat} {kt vt : Ty} (h : st1.get k = st2.get k) : st1.map k kt vt = st2.map k kt vt := by unfold Store.map; rw [h]
theorem lookupE_congr {T : TypeId} {a : AV} {ix : Slot} {ok : Bool} (ha : ∀ k ∈ a.keys, st1.get k = st2.get k) (hi : ∀ k ∈ ix.keys, st1.get k = st2.get k) : lookupE E T a ix ok st1 = lookupE E T a ix ok st2 := by
  unfold lookupE
  split
  · rename_i k
    have hk := ha k (by simp [AV.keys])
    split
    · rename_i kt vt hT
      rw [map_congr hk, slot_congr (t := kt) hi]
    · rfl
  · rfl
theorem mapUpdateE_congr {T : TypeId} {a : AV} {ix y : Slot} (ha : ∀ k ∈ a.keys, st1.get k = st2.get k) (hi : ∀ k ∈ ix.keys, st1.get k = st2.get k) (hy : ∀ k ∈ y.keys, st1.get k = st2.get k) {r : Store} (he : mapUpdateE E T a ix y st1 = some r) :
    ∃ r', mapUpdateE E T a ix y st2 = some r' ∧ ∀ k, st1.get k = st2.get k → r.get k = r'.get k := by
  unfold mapUpdateE at he ⊢
  split at he
  · rename_i k
    have hk := ha k (by simp [AV.keys])
    split at he
    · rename_i kt vt hT
      rw [map_congr hk, slot_congr (t := kt) hi, slot_congr (t := vt) hy] at he
      split at he
      · rename_i l c hm
        split at he
        · rename_i kx hkx
          split at he
          · rename_i vx hvx
            injection he with he
            subst he
            exact ⟨_, by first | rfl | (simp only [hm, hkx, hvx]; done) | (simp only [hm, hkx, hvx]; rfl), fun j hj => put_pw (fz_pw (b := vt.hasSl) (l := y.rows) hj)⟩
          · cases he
        · cases he
      · cases he
    · cases he
  · cases he
theorem val_congr0 (h : Same o s1 s2) {c : Bool} {v : Slot} {r : Store} (he : evalOp0 E key o s1 = some (.val c v r)) : ∃ r', evalOp0 E key o s2 = some (.val c v r') ∧ ∀ k, s1.st.get k = s2.st.get k → r.get k = r'.get k := by
  have hops := h
  unfold evalOp0 at he ⊢
  split at he
  case h_1 x ho =>
    have hx : x ∈ o.op.operands.toList := by rw [ho]; simp [Op.operands]
    rw [h.ev x hx]
    obtain ⟨sl, hsl, e⟩ := Option.map_eq_some_iff.1 he
    simp only [Eff.val.injEq] at e
    obtain ⟨rfl, rfl, rfl⟩ := e
    exact ⟨_, by rw [hsl]; rfl, fun k h => h⟩
  case h_2 x ho =>
    have hx : x ∈ o.op.operands.toList := by rw [ho]; simp [Op.operands]
    rw [h.ev x hx]
    obtain ⟨sl, hsl, e⟩ := Option.map_eq_some_iff.1 he
    simp only [Eff.val.injEq] at e
    obtain ⟨rfl, rfl, rfl⟩ := e
    exact ⟨_, by rw [hsl]; rfl, fun k h => h⟩
  case h_3 t ho =>
    obtain ⟨cs, hz, e⟩ := Option.map_eq_some_iff.1 he
    simp only [Eff.val.injEq] at e
    obtain ⟨rfl, rfl, rfl⟩ := e
    exact ⟨_, by rw [hz]; rfl, fun k h => put_pw h⟩
  case h_4 t x ho =>
    have hx : x ∈ o.op.operands.toList := by rw [ho]; simp [Op.operands]
    rw [h.ev x hx]
    split at he
    · rename_i sl hsl
      split at he
      · rename_i cs hc
        simp only [Option.some.injEq, Eff.val.injEq] at he
        obtain ⟨rfl, rfl, rfl⟩ := he
        exact ⟨_, by first | (simp only [hsl, hc]; done) | (simp only [hsl, hc]; rfl) | rfl, fun k h => put_pw h⟩
      · cases he
    · cases he
  case h_5 t parts ho =>
    have hp : ∀ p ∈ parts.toList, s2.ev p.2 = s1.ev p.2 := fun p hp => h.ev _ (by rw [ho]; simp only [Op.operands, List.mem_map]; exact ⟨p, hp, rfl⟩)
    split at he
    · rename_i cs hz
      split at he
      · rename_i hst
        obtain ⟨l, hl, e⟩ := Option.map_eq_some_iff.1 he
        simp only [Eff.val.injEq] at e
        obtain ⟨rfl, rfl, rfl⟩ := e
        exact ⟨_, by first | (simp only [hz, hst, buildParts_congr hp, hl]; done) | (simp only [hz, hst, buildParts_congr hp, hl]; rfl) | rfl, fun k h => h⟩
      · cases he
    · cases he
  case h_6 t len parts ho =>
    have hp : ∀ p ∈ parts.toList, p.2 ∈ o.op.operands.toList := fun p hp => by rw [ho]; simp only [Op.operands, List.mem_map]; exact ⟨p, hp, rfl⟩
    split at he
    · rename_i e hT
      split at he
      · rename_i xs hxs
        split at he
        · rename_i hc
          simp only [Option.some.injEq, Eff.val.injEq] at he
          obtain ⟨rfl, rfl, rfl⟩ := he
          refine ⟨_, by first | (simp only [hT, partsAs_congr (s1 := s1) (s2 := s2) (fun p q => h.ev _ (hp p q)) (fun p q sl hs => h.keys (hp p q) hs), hxs, partsRows_congr (s1 := s1) (s2 := s2) (fun p q => h.ev _ (hp p q)), if_pos hc]; done) | (simp only [hT, partsAs_congr (s1 := s1) (s2 := s2) (fun p q => h.ev _ (hp p q)) (fun p q sl hs => h.keys (hp p q) hs), hxs, partsRows_congr (s1 := s1) (s2 := s2) (fun p q => h.ev _ (hp p q)), if_pos hc]; rfl) | rfl, fun k h => put_pw (fz_pw (b := e.hasSl) h)⟩
        · cases he
      · cases he
    · cases he
  case h_7 t x ho =>
    have hx : x ∈ o.op.operands.toList := by rw [ho]; simp [Op.operands]
    rw [h.one hx]
    split at he
    · rename_i av hav
      obtain ⟨sl, hl, e⟩ := Option.map_eq_some_iff.1 he
      simp only [Eff.val.injEq] at e
      obtain ⟨rfl, rfl, rfl⟩ := e
      exact ⟨_, by first | (simp only [hav, ← loadE_congr (h.okeys hx hav), hl]; done) | (simp only [hav, ← loadE_congr (h.okeys hx hav), hl]; rfl) | rfl, fun k h => h⟩
    · cases he
  case h_8 t x y ho =>
    have hx : x ∈ o.op.operands.toList := by rw [ho]; simp [Op.operands]
    have hy : y ∈ o.op.operands.toList := by rw [ho]; simp [Op.operands]
    rw [h.one hx, h.ev y hy]
    split at he
    · rename_i av hav
      split at he
      · rename_i sl hsl
        obtain ⟨st', hl, e⟩ := Option.map_eq_some_iff.1 he
        simp only [Eff.val.injEq] at e
        obtain ⟨rfl, rfl, rfl⟩ := e
        obtain ⟨r', h1, h2⟩ := storeE_congr (h.okeys hx hav) (h.keys hy hsl) hl
        exact ⟨r', by first | (simp only [hav, hsl, h1]; done) | (simp only [hav, hsl, h1]; rfl) | rfl, h2⟩
      · cases he
    · cases he
  case h_9 x ho =>
    have hx : x ∈ o.op.operands.toList := by rw [ho]; simp [Op.operands]
    rw [h.one hx]
    split at he
    · rename_i p q r t hav
      simp only [Option.some.injEq, Eff.val.injEq] at he
      obtain ⟨rfl, rfl, rfl⟩ := he
      exact ⟨_, by first | (simp only [hav]; done) | (simp only [hav]; rfl) | rfl, fun k h => h⟩
    · rename_i p q r hav
      simp only [Option.some.injEq, Eff.val.injEq] at he
      obtain ⟨rfl, rfl, rfl⟩ := he
      exact ⟨_, by first | (simp only [hav]; done) | (simp only [hav]; rfl) | rfl, fun k h => h⟩
    · rename_i p q hav
      simp only [Option.some.injEq, Eff.val.injEq] at he
      obtain ⟨rfl, rfl, rfl⟩ := he
      exact ⟨_, by first | (simp only [hav]; done) | (simp only [hav]; rfl) | rfl, fun k h => h⟩
    · cases he
  case h_10 op t x y t' ho =>
    have hx : x ∈ o.op.operands.toList := by rw [ho]; simp [Op.operands]
    have hy : y ∈ o.op.operands.toList := by rw [ho]; simp [Op.operands]
    rw [h.ev x hx, h.ev y hy]
    split at he
    · rename_i sx hsx
      split at he
      · rename_i sy hsy
        obtain ⟨cv, hb, e⟩ := Option.map_eq_some_iff.1 he
        simp only [Eff.val.injEq] at e
        obtain ⟨rfl, rfl, rfl⟩ := e
        exact ⟨_, by first | (simp only [hsx, hsy, ← binE_congr (h.keys hx hsx) (h.keys hy hsy), hb]; done) | (simp only [hsx, hsy, ← binE_congr (h.keys hx hsx) (h.keys hy hsy), hb]; rfl) | rfl, fun k h => h⟩
      · cases he
    · cases he
  case h_11 op t x ho =>
    have hx : x ∈ o.op.operands.toList := by rw [ho]; simp [Op.operands]
    rw [h.bool hx, h.int hx]
    split at he
    · obtain ⟨b, hb, e⟩ := Option.map_eq_some_iff.1 he
      simp only [Eff.val.injEq] at e
      obtain ⟨rfl, rfl, rfl⟩ := e
      exact ⟨_, by first | (simp only [hb]; done) | (simp only [hb]; rfl) | rfl, fun k h => h⟩
    · obtain ⟨b, hb, e⟩ := Option.map_eq_some_iff.1 he
      simp only [Eff.val.injEq] at e
      obtain ⟨rfl, rfl, rfl⟩ := e
      exact ⟨_, by first | (simp only [hb]; done) | (simp only [hb]; rfl) | rfl, fun k h => h⟩
    · obtain ⟨b, hb, e⟩ := Option.map_eq_some_iff.1 he
      simp only [Eff.val.injEq] at e
      obtain ⟨rfl, rfl, rfl⟩ := e
      exact ⟨_, by first | (simp only [hb]; done) | (simp only [hb]; rfl) | rfl, fun k h => h⟩
    · cases he
  case h_12 src dst x ho =>
    have hx : x ∈ o.op.operands.toList := by rw [ho]; simp [Op.operands]
    rw [h.ev x hx]
    split at he
    · rename_i sl hsl
      obtain ⟨rfl, h2⟩ := convE_congr (st2 := s2.st) he
      exact ⟨_, by first | exact h2 | (simp only [hsl]; exact h2), fun k h => h⟩
    · cases he
  case h_13 t x y ho =>
    have hx : x ∈ o.op.operands.toList := by rw [ho]; simp [Op.operands]
    have hy : y ∈ o.op.operands.toList := by rw [ho]; simp [Op.operands]
    rw [h.int hx, h.int hy]
    split at he
    · rename_i e hT
      split at he
      · rename_i by_ hby
        split at he
        · rename_i k n hn
          split at he
          · rename_i k' m hm
            simp only [Option.some.injEq, Eff.val.injEq] at he
            obtain ⟨rfl, rfl, rfl⟩ := he
            exact ⟨_, by first | (simp only [hT, hby, hn, hm]; done) | (simp only [hT, hby, hn, hm]; rfl) | rfl, fun k h => put_pw h⟩
          · cases he
        · cases he
      · cases he
    · cases he
  case h_14 t x lo hi mx ho =>
    have hx : x ∈ o.op.operands.toList := by rw [ho]; simp [Op.operands]
    have hlo : ∀ y, lo = some y → s2.int y = s1.int y := fun y hy => h.int (by rw [ho, hy]; simp [Op.operands])
    have hhi : ∀ y, hi = some y → s2.int y = s1.int y := fun y hy => h.int (by rw [ho, hy]; simp [Op.operands])
    rw [h.one hx, bnd_congr hlo]
    split at he
    · split at he
      · rename_i e hT
        split at he
        · rename_i av hav
          split at he
          · rename_i len hl
            split at he
            · rename_i l hl2
              split at he
              · rename_i r' hr
                obtain ⟨rfl, h2⟩ := sliceE_congr (st2 := s2.st) (h.okeys hx hav) he
                exact ⟨_, by first | exact h2 | (simp only [hT, hav, ← lenOf_congr (h.okeys hx hav), hl, hl2, bnd_congr hhi, hr]; exact h2), fun k h => h⟩
              · cases he
            · cases he
          · cases he
        · cases he
      · cases he
    · cases he
  case h_15 t x f ho =>
    have hx : x ∈ o.op.operands.toList := by rw [ho]; simp [Op.operands]
    rw [h.one hx]
    split at he
    · rename_i d n hf
      split at he
      · rename_i k i sz off hav
        simp only [Option.some.injEq, Eff.val.injEq] at he
        obtain ⟨rfl, rfl, rfl⟩ := he
        exact ⟨_, by first | (simp only [hf, hav]; done) | (simp only [hf, hav]; rfl) | rfl, fun k h => h⟩
      · rename_i e y off hav
        simp only [Option.some.injEq, Eff.val.injEq] at he
        obtain ⟨rfl, rfl, rfl⟩ := he
        exact ⟨_, by first | (simp only [hf, hav]; done) | (simp only [hf, hav]; rfl) | rfl, fun k h => h⟩
      · cases he
    · cases he
  case h_16 t x ix ho =>
    have hx : x ∈ o.op.operands.toList := by rw [ho]; simp [Op.operands]
    have hix : ix ∈ o.op.operands.toList := by rw [ho]; simp [Op.operands]
    rw [h.one hx, h.int hix]
    split at he
    · rename_i e hT
      split at he
      · rename_i av hav
        split at he
        · rename_i k i hi
          obtain ⟨rfl, h2⟩ := indexE_congr (st2 := s2.st) (h.okeys hx hav) he
          exact ⟨_, by first | exact h2 | (simp only [hT, hav, hi]; exact h2), fun k h => h⟩
        · cases he
      · cases he
    · cases he
  case h_17 x i ho =>
    have hx : x ∈ o.op.operands.toList := by rw [ho]; simp [Op.operands]
    rw [h.ev x hx]
    split at he
    · rename_i l hl
      obtain ⟨av, ha, e⟩ := Option.map_eq_some_iff.1 he
      simp only [Eff.val.injEq] at e
      obtain ⟨rfl, rfl, rfl⟩ := e
      exact ⟨_, by first | (simp only [hl, ha]; done) | (simp only [hl, ha]; rfl) | rfl, fun k h => h⟩
    · cases he
  case h_18 c ho =>
    have hargs : ∀ x ∈ c.args.toList, x ∈ o.op.operands.toList := fun x hx => by
      rw [ho]
      simp only [Op.operands, Call.operands, Array.toList_append, List.mem_append]
      exact .inr hx
    unfold callE at he ⊢
    split at he
    · rename_i hc
      split at he
      · rename_i x hx
        have hxo := hargs x (by rw [hx]; simp)
        try simp only [h.one hxo]
        split at he
        · rename_i av hav
          split at he
          · rename_i T hT
            split at he
            · rename_i e hty
              obtain ⟨n, hn, e⟩ := Option.map_eq_some_iff.1 he
              simp only [Eff.val.injEq] at e
              obtain ⟨rfl, rfl, rfl⟩ := e
              exact ⟨_, by first | (simp only [hav, hT, hty, ← lenOf_congr (h.okeys hxo hav), hn]; done) | (simp only [hav, hT, hty, ← lenOf_congr (h.okeys hxo hav), hn]; rfl) | rfl, fun k h => h⟩
            · split at he
              · rename_i kt vt hm
                split at he
                · rename_i k0
                  split at he
                  · rename_i l n hl
                    simp only [Option.some.injEq, Eff.val.injEq] at he
                    obtain ⟨rfl, rfl, rfl⟩ := he
                    have hk0 := (h.okeys hxo hav) k0 (by simp [AV.keys])
                    rw [map_congr hk0] at hl
                    refine ⟨s2.st, ?_, fun k h => h⟩
                    simp only [hl]
                  · cases he
                · cases he
              · cases he
          · cases he
        · cases he
      · cases he
    · rename_i hc
      split at he
      · rename_i x y hx
        have hxo := hargs x (by rw [hx]; simp)
        have hyo := hargs y (by rw [hx]; simp)
        try simp only [h.one hxo, h.one hyo]
        split at he
        · rename_i av hav
          split at he
          · rename_i bv hbv
            split at he
            · rename_i T T' hTT
              split at he
              · rename_i e hty
                split at he
                · rename_i e' hty'
                  split at he
                  · rename_i by_ hby
                    obtain ⟨r', h1, h2⟩ := appendE_congr (h.okeys hxo hav) (h.okeys hyo hbv) he
                    exact ⟨r', by first | exact h1 | (simp only [hav, hbv, hTT, hty, hty', hby]; exact h1), h2⟩
                  · cases he
                · cases he
              · cases he
            · cases he
          · cases he
        · cases he
      · cases he
    · rename_i hc
      split at he
      · rename_i x y hx
        have hxo := hargs x (by rw [hx]; simp)
        have hyo := hargs y (by rw [hx]; simp)
        try simp only [h.int hxo, h.int hyo]
        split at he
        · rename_i k m hm
          split at he
          · rename_i k' n hn
            simp only [Option.some.injEq, Eff.val.injEq] at he
            obtain ⟨rfl, rfl, rfl⟩ := he
            exact ⟨_, by first | (simp only [hm, hn]; done) | (simp only [hm, hn]; rfl) | rfl, fun k h => h⟩
          · cases he
        · cases he
      · cases he
    · rename_i hc
      split at he
      · rename_i x y hx
        have hxo := hargs x (by rw [hx]; simp)
        have hyo := hargs y (by rw [hx]; simp)
        try simp only [h.int hxo, h.int hyo]
        split at he
        · rename_i k m hm
          split at he
          · rename_i k' n hn
            simp only [Option.some.injEq, Eff.val.injEq] at he
            obtain ⟨rfl, rfl, rfl⟩ := he
            exact ⟨_, by first | (simp only [hm, hn]; done) | (simp only [hm, hn]; rfl) | rfl, fun k h => h⟩
          · cases he
        · cases he
      · cases he
    · rename_i hc
      split at he
      · rename_i x y hx
        have hxo := hargs x (by rw [hx]; simp)
        have hyo := hargs y (by rw [hx]; simp)
        simp only [h.one hxo, h.ev y hyo]
        split at he
        · rename_i k0 hav
          have hk0 := (h.okeys hxo hav) k0 (by simp [AV.keys])
          split at he
          · rename_i T hT
            split at he
            · rename_i kt vt hm
              split at he
              · rename_i l n hl
                rw [map_congr hk0] at hl
                split at he
                · rename_i sl hy
                  simp only [hl]
                  rw [slot_congr (t := kt) (h.keys hyo hy)] at he
                  split at he
                  · rename_i kx hkx
                    simp only [Option.some.injEq, Eff.val.injEq] at he
                    obtain ⟨rfl, rfl, rfl⟩ := he
                    exact ⟨_, by first | rfl | (simp only [hkx]; done) | (simp only [hkx]; rfl), fun k h => put_pw h⟩
                  · cases he
                · cases he
              · cases he
            · cases he
          · cases he
        · cases he
      · cases he
    · cases he
  case h_19 fn first captured ho =>
    split at he
    · split at he
      · rename_i hf0
        split at he
        · rename_i ks hks
          simp only [Option.some.injEq, Eff.val.injEq] at he
          obtain ⟨rfl, rfl, rfl⟩ := he
          have hcap : capKeys s2 captured.toList = some ks := capKeys_congr h (by simp [isMove, ho]) captured.toList (fun x hx => by rw [ho]; simp only [Op.operands, Array.toList_append, List.mem_append]; exact .inr hx) hks
          exact ⟨_, by simp only [hf0, if_true, hcap], fun k h => h⟩
        · cases he
      · cases he
    · cases he
  case h_20 t r0 ho =>
    split at he
    · split at he
      · rename_i kt vt hm
        simp only [Option.some.injEq, Eff.val.injEq] at he
        obtain ⟨rfl, rfl, rfl⟩ := he
        exact ⟨_, by simp only [hm], fun k h => put_pw h⟩
      · cases he
    · cases he
  case h_21 t x ix cok ho =>
    have hx : x ∈ o.op.operands.toList := by rw [ho]; simp [Op.operands]
    have hi : ix ∈ o.op.operands.toList := by rw [ho]; simp [Op.operands]
    rw [h.one hx, h.ev ix hi]
    split at he
    · rename_i av hav
      split at he
      · rename_i sl hsl
        obtain ⟨v1, hl, e⟩ := Option.map_eq_some_iff.1 he
        simp only [Eff.val.injEq] at e
        obtain ⟨rfl, rfl, rfl⟩ := e
        refine ⟨s2.st, ?_, fun k h => h⟩
        simp only [← lookupE_congr (h.okeys hx hav) (h.keys hi hsl), hl, Option.map_some]
      · cases he
    · cases he
  case h_22 t x ix y ho =>
    have hx : x ∈ o.op.operands.toList := by rw [ho]; simp [Op.operands]
    have hi : ix ∈ o.op.operands.toList := by rw [ho]; simp [Op.operands]
    have hy : y ∈ o.op.operands.toList := by rw [ho]; simp [Op.operands]
    rw [h.one hx, h.ev ix hi, h.ev y hy]
    split at he
    · rename_i av hav
      split at he
      · rename_i sl hsl
        split at he
        · rename_i vy hvy
          obtain ⟨r1, hl, e⟩ := Option.map_eq_some_iff.1 he
          simp only [Eff.val.injEq] at e
          obtain ⟨rfl, rfl, rfl⟩ := e
          obtain ⟨r', h1, h2⟩ := mapUpdateE_congr (h.okeys hx hav) (h.keys hi hsl) (h.keys hy hvy) hl
          refine ⟨r', ?_, h2⟩
          simp only [h1, Option.map_some]
        · cases he
      · cases he
    · cases he
  case h_23 => cases he
theorem valX_congr (h : Same o s1 s2) {e : Eff} (he : evalX E key o s1 = some e) : ∃ c v r r', e = .val c v r ∧ evalX E key o s2 = some (.val c v r') ∧ ∀ k, s1.st.get k = s2.st.get k → r.get k = r'.get k := by
  unfold evalX at he ⊢
  split at he
  · rename_i x ho
    rw [h.one (by rw [ho]; simp [Op.operands])]
    split at he
    · rename_i t d hx
      injection he with he
      subst he
      exact ⟨_, _, _, _, rfl, by first | rfl | rw [hx], fun k h => h⟩
    · cases he
  · rename_i op T x y T' ho
    rw [h.one (x := x) (by rw [ho]; simp [Op.operands]), h.one (x := y) (by rw [ho]; simp [Op.operands])]
    cases hT : E.ptr T with
    | false => rw [hT] at he; cases he
    | true =>
      rw [hT] at he
      simp only [cond_true] at he ⊢
      split at he
      · rename_i av hx
        try rw [hx]
        try simp only
        split at he
        · rename_i bv hy
          try rw [hy]
          try simp only
          split at he
          · rename_i c hc
            try rw [hc]
            try simp only
            split at he
            · injection he with he; subst he; exact ⟨_, _, _, _, rfl, rfl, fun k h => h⟩
            · injection he with he; subst he; exact ⟨_, _, _, _, rfl, rfl, fun k h => h⟩
            · cases he
          · cases he
        · cases he
      · cases he
  · rename_i T x ix cok ho
    have hix : ix ∈ o.op.operands.toList := by rw [ho]; simp [Op.operands]
    rw [h.one (x := x) (by rw [ho]; simp [Op.operands]), h.ev ix hix]
    split at he
    · rename_i k v' d hx
      try rw [hx]
      try simp only
      split at he
      · rename_i k2 v2 hT
        try rw [hT]
        try simp only
        split at he
        · rename_i e1
          try rw [if_pos e1]
          split at he
          · rename_i sl hi
            try rw [hi]
            try simp only
            rw [← slot_congr (t := k) (h.keys hix hi)]
            split at he
            · rename_i kx hkx
              injection he with he
              subst he
              try rw [hkx]
              exact ⟨_, _, _, _, rfl, rfl, fun k h => h⟩
            · cases he
          · cases he
        · cases he
      · cases he
    · cases he
  · rename_i c ho
    split at he
    · rename_i hc
      try rw [hc]
      try simp only
      split at he
      · rename_i x hx
        try rw [hx]
        try simp only
        have hm : x ∈ o.op.operands.toList := by rw [ho]; simp [Op.operands, Call.operands, hx]
        rw [h.one hm]
        split at he
        · rename_i k v' d hav
          try rw [hav]
          try simp only
          split at he
          · rename_i T hT
            try rw [hT]
            try simp only
            split at he
            · rename_i kv hmt
              injection he with he
              subst he
              try rw [hmt]
              exact ⟨_, _, _, _, rfl, rfl, fun k h => h⟩
            · cases he
          · cases he
        · cases he
      · cases he
    · cases he
  · rename_i T x ho
    rw [h.one (x := x) (by rw [ho]; simp [Op.operands])]
    split at he
    · rename_i k v' d hx
      try rw [hx]
      try simp only
      split at he
      · rename_i kv hm
        injection he with he
        subst he
        try rw [hm]
        exact ⟨_, _, _, _, rfl, rfl, fun k h => put_pw h⟩
      · cases he
    · cases he
  · rename_i x ho
    have hm : x ∈ o.op.operands.toList := by rw [ho]; simp [Op.operands]
    rw [h.one hm]
    split at he
    · rename_i j hx
      try rw [hx]
      try simp only
      rw [← (h.okeys hm hx) j (by simp [AV.keys])]
      split at he
      · rename_i k v' l c seen hg
        try rw [hg]
        try simp only
        injection he with he
        subst he
        exact ⟨_, _, _, _, rfl, rfl, fun k h => h⟩
      · cases he
    · cases he
  · cases he
theorem val_congr (h : Same o s1 s2) {c : Bool} {v : Slot} {r : Store} (he : evalOp E key o s1 = some (.val c v r)) : ∃ r', evalOp E key o s2 = some (.val c v r') ∧ ∀ k, s1.st.get k = s2.st.get k → r.get k = r'.get k := by
  unfold evalOp at he ⊢
  split at he
  · rename_i e hX
    injection he with he
    subst he
    obtain ⟨c', v', r1, r', h1, h2, h3⟩ := valX_congr h hX
    injection h1 with h1 h4 h5
    subst h1 h4 h5
    exact ⟨r', by rw [h2], h3⟩
  · rename_i hN
    have hN2 : evalX E key o s2 = none := by
      cases hX : evalX E key o s2 with
      | none => rfl
      | some e =>
        obtain ⟨c', v', r1, r', _, h2, _⟩ := valX_congr h.symm hX
        rw [hN] at h2
        cases h2
    obtain ⟨r', h1, h2⟩ := val_congr0 h he
    exact ⟨r', by rw [hN2]; exact h1, h2⟩
end Go.Ev
end
section
set_option linter.unusedVariables false
set_option linter.unusedSimpArgs false
namespace Go.Ev
variable {E : Env} {s s1 s2 : St} {key : Nat} {o : Oper} {st st1 st2 : Store}
theorem put_ne {j k : Nat} {ob : Ob} (h : k ≠ j) : (st.put j ob).get k = st.get k := by rw [get_put, if_neg h]
theorem erase_ne {j k : Nat} (h : k ≠ j) : (st.erase j).get k = st.get k := by rw [get_erase, if_neg h]
theorem storeE_frame {T : TypeId} {a : AV} {v : Slot} {r : Store} (he : storeE E T a v st = some r) {k : Nat} (ha : k ∉ a.keys) (hv : ∀ u, E.ty T = some u → u.hasSl = true → k ∉ v.keys) : r.get k = st.get k := by
  unfold storeE at he
  split at he
  · rename_i j i sz off
    have hj : k ≠ j := fun e => ha (by simp [AV.keys, e])
    split at he
    · split at he
      · split at he
        · split at he
          · injection he with he
            subst he
            exact put_ne hj
          · cases he
        · cases he
      · cases he
    · split at he
      · rename_i u hu
        split at he
        · split at he
          · obtain ⟨z, hz, rfl⟩ := Option.map_eq_some_iff.1 he
            rw [put_ne hj]
            cases hs : u.hasSl with
            | false => exact get_fz_of (b := false) (.inl rfl)
            | true => exact get_fz_of (b := true) (.inr fun h => hv u hu hs (Slot.rows_keys h))
          · cases he
        · cases he
      · cases he
    · cases he
  · cases he
theorem appendE_frame {e : Ty} {by_ : Nat} {a b : AV} {c : Bool} {v : Slot} {r : Store} (he : appendE st key e by_ a b = some (.val c v r)) {k : Nat} (hk : k ≠ key) (ha : k ∉ a.keys) : r.get k = st.get k := by
  unfold appendE at he
  split at he
  · cases he
  · split at he
    · simp only [Option.some.injEq, Eff.val.injEq] at he
      obtain ⟨rfl, rfl, rfl⟩ := he
      rw [put_ne hk]
    · rename_i j
      have hj : k ≠ j := fun e => ha (by simp [AV.keys, e])
      split at he
      · cases he
      · split at he
        · simp only [Option.some.injEq, Eff.val.injEq] at he
          obtain ⟨rfl, rfl, rfl⟩ := he
          rw [put_ne hk, erase_ne hj]
        · cases he
    · rename_i j sz lo n
      have hj : k ≠ j := fun e => ha (by simp [AV.keys, e])
      split at he
      · cases he
      · split at he
        · split at he
          · simp only [Option.some.injEq, Eff.val.injEq] at he
            obtain ⟨rfl, rfl, rfl⟩ := he
            rw [put_ne hk, erase_ne hj]
          · cases he
        · cases he
    · cases he
theorem keysAt_mem {x : Operand} {sl : Slot} (h : s.ev x = some sl) {k : Nat} (hk : k ∈ sl.keys) : k ∈ keysAt s x := by unfold keysAt; rw [h]; exact hk
theorem keysAt_op {x : Operand} (hx : x ∈ o.op.operands.toList) {k : Nat} (hk : k ∈ keysAt s x) (hm : isMove o = false := by first | assumption | simp [isMove, *]) : k ∈ touch o s := opKeys_touch hm (by unfold opKeys; exact List.mem_flatMap.2 ⟨x, hx, hk⟩)
theorem wkeys_plain (hwr : writesB E o = true) (h1 : ∀ t x y, o.op ≠ .store t x y) (h2 : ∀ c, o.op ≠ .call c) {k : Nat} (hk : k ∈ touch o s) : k ∈ wkeys E o s := by
  unfold wkeys
  rw [hwr]
  simp only [cond_true]
  first
  | exact hk
  | (split
     · rename_i t x y ho; exact absurd ho (h1 t x y)
     · rename_i c ho; exact absurd ho (h2 c)
     · exact hk)
theorem wkeys_call (hwr : writesB E o = true) (h : ∃ c x, o.op = .call c ∧ c.callee = .value x) {k : Nat} (hk : k ∈ touch o s) : k ∈ wkeys E o s := by
  obtain ⟨c, x, ho, hc⟩ := h
  unfold wkeys
  rw [hwr, ho]
  simp only [cond_true, hc]
  exact hk
theorem wkeys_touch {k : Nat} (h : k ∈ wkeys E o s) : k ∈ touch o s := by
  unfold wkeys at h
  cases hwr : writesB E o with
  | false => rw [hwr] at h; cases h
  | true =>
    rw [hwr] at h
    simp only [cond_true] at h
    split at h
    · rename_i t x y ho
      have hx : x ∈ o.op.operands.toList := by rw [ho]; simp [Op.operands]
      have hy : y ∈ o.op.operands.toList := by rw [ho]; simp [Op.operands]
      rcases List.mem_append.1 h with h | h
      · exact keysAt_op hx h
      · split at h
        · rename_i u _
          cases hs : u.hasSl with
          | false => rw [hs] at h; cases h
          | true => rw [hs] at h; exact keysAt_op hy h
        · cases h
    · rename_i c ho
      have hargs : ∀ x ∈ c.args.toList, x ∈ o.op.operands.toList := fun x hx => by
        rw [ho]
        simp only [Op.operands, Call.operands, Array.toList_append, List.mem_append]
        exact .inr hx
      split at h
      · split at h
        · rename_i x y hxy
          have hx := hargs x (by rw [hxy]; simp)
          have hy := hargs y (by rw [hxy]; simp)
          split at h
          · split at h
            · exact keysAt_op hx h
            · exact h
          · exact h
        · exact h
      · exact h
    · exact h
theorem val_frame0 {c : Bool} {v : Slot} {r : Store} (he : evalOp0 E key o s = some (.val c v r)) {k : Nat} (hk : k ≠ key) (hw : k ∉ wkeys E o s) : r.get k = s.st.get k := by
  unfold evalOp0 at he
  split at he
  case h_1 x ho =>
    obtain ⟨sl, hsl, e⟩ := Option.map_eq_some_iff.1 he
    simp only [Eff.val.injEq] at e
    obtain ⟨rfl, rfl, rfl⟩ := e
    rfl
  case h_2 x ho =>
    obtain ⟨sl, hsl, e⟩ := Option.map_eq_some_iff.1 he
    simp only [Eff.val.injEq] at e
    obtain ⟨rfl, rfl, rfl⟩ := e
    rfl
  case h_3 t ho =>
    obtain ⟨cs, hz, e⟩ := Option.map_eq_some_iff.1 he
    simp only [Eff.val.injEq] at e
    obtain ⟨rfl, rfl, rfl⟩ := e
    exact put_ne hk
  case h_4 t x ho =>
    split at he
    · split at he
      · simp only [Option.some.injEq, Eff.val.injEq] at he
        obtain ⟨rfl, rfl, rfl⟩ := he
        exact put_ne hk
      · cases he
    · cases he
  case h_5 t parts ho =>
    split at he
    · split at he
      · obtain ⟨l, hl, e⟩ := Option.map_eq_some_iff.1 he
        simp only [Eff.val.injEq] at e
        obtain ⟨rfl, rfl, rfl⟩ := e
        rfl
      · cases he
    · cases he
  case h_6 t len parts ho =>
    split at he
    · rename_i e hT
      split at he
      · split at he
        · simp only [Option.some.injEq, Eff.val.injEq] at he
          obtain ⟨rfl, rfl, rfl⟩ := he
          rw [put_ne hk]
          cases hsl : e.hasSl with
          | false => rfl
          | true =>
            refine get_fz_of (b := true) (.inr fun hr => hw (wkeys_plain (by simp [writesB, ho, hT, hsl]) (fun t x y e => by rw [ho] at e; cases e) (fun c e => by rw [ho] at e; cases e) ?_))
            obtain ⟨p, hp, sl, h1, h2⟩ := partsRows_touch hr
            exact touch_mem (by rw [ho]; simp only [Op.operands, List.mem_map]; exact ⟨p, hp, rfl⟩) h1 h2
        · cases he
      · cases he
    · cases he
  case h_7 t x ho =>
    split at he
    · obtain ⟨sl, hl, e⟩ := Option.map_eq_some_iff.1 he
      simp only [Eff.val.injEq] at e
      obtain ⟨rfl, rfl, rfl⟩ := e
      rfl
    · cases he
  case h_8 t x y ho =>
    have hx : x ∈ o.op.operands.toList := by rw [ho]; simp [Op.operands]
    have hy : y ∈ o.op.operands.toList := by rw [ho]; simp [Op.operands]
    have hwr : writesB E o = true := by simp [writesB, ho]
    split at he
    · rename_i av hav
      split at he
      · rename_i sl hsl
        obtain ⟨st', hl, e⟩ := Option.map_eq_some_iff.1 he
        simp only [Eff.val.injEq] at e
        obtain ⟨rfl, rfl, rfl⟩ := e
        exact storeE_frame hl (fun h => hw (by unfold wkeys; rw [hwr, ho]; simp only [cond_true, List.mem_append]; exact .inl (keysAt_mem (one_ev hav) h))) (fun u hu hs h => hw (by unfold wkeys; rw [hwr, ho]; simp only [cond_true, hu, hs, List.mem_append]; exact .inr (keysAt_mem hsl h)))
      · cases he
    · cases he
  case h_9 x ho =>
    split at he <;> first
      | (simp only [Option.some.injEq, Eff.val.injEq] at he
         obtain ⟨rfl, rfl, rfl⟩ := he
         rfl)
      | cases he
  case h_10 op t x y t' ho =>
    split at he
    · split at he
      · obtain ⟨cv, hb, e⟩ := Option.map_eq_some_iff.1 he
        simp only [Eff.val.injEq] at e
        obtain ⟨rfl, rfl, rfl⟩ := e
        rfl
      · cases he
    · cases he
  case h_11 op t x ho =>
    split at he
    · obtain ⟨b, hb, e⟩ := Option.map_eq_some_iff.1 he
      simp only [Eff.val.injEq] at e
      obtain ⟨rfl, rfl, rfl⟩ := e
      rfl
    · obtain ⟨b, hb, e⟩ := Option.map_eq_some_iff.1 he
      simp only [Eff.val.injEq] at e
      obtain ⟨rfl, rfl, rfl⟩ := e
      rfl
    · obtain ⟨b, hb, e⟩ := Option.map_eq_some_iff.1 he
      simp only [Eff.val.injEq] at e
      obtain ⟨rfl, rfl, rfl⟩ := e
      rfl
    · cases he
  case h_12 src dst x ho =>
    split at he
    · rw [(convE_congr (st2 := s.st) he).1]
    · cases he
  case h_13 t x y ho =>
    split at he
    · split at he
      · split at he
        · split at he
          · simp only [Option.some.injEq, Eff.val.injEq] at he
            obtain ⟨rfl, rfl, rfl⟩ := he
            exact put_ne hk
          · cases he
        · cases he
      · cases he
    · cases he
  case h_14 t x lo hi mx ho =>
    split at he
    · split at he
      · split at he
        · split at he
          · split at he
            · split at he
              · rw [(sliceE_congr (st2 := s.st) (fun _ _ => rfl) he).1]
              · cases he
            · cases he
          · cases he
        · cases he
      · cases he
    · cases he
  case h_15 t x f ho =>
    split at he
    · split at he <;> first
        | (simp only [Option.some.injEq, Eff.val.injEq] at he
           obtain ⟨rfl, rfl, rfl⟩ := he
           rfl)
        | cases he
    · cases he
  case h_16 t x ix ho =>
    split at he
    · split at he
      · split at he
        · rw [(indexE_congr (st2 := s.st) (fun _ _ => rfl) he).1]
        · cases he
      · cases he
    · cases he
  case h_17 x i ho =>
    split at he
    · obtain ⟨av, ha, e⟩ := Option.map_eq_some_iff.1 he
      simp only [Eff.val.injEq] at e
      obtain ⟨rfl, rfl, rfl⟩ := e
      rfl
    · cases he
  case h_18 c ho =>
    have hargs : ∀ x ∈ c.args.toList, x ∈ o.op.operands.toList := fun x hx => by
      rw [ho]
      simp only [Op.operands, Call.operands, Array.toList_append, List.mem_append]
      exact .inr hx
    unfold callE at he
    split at he
    · split at he
      · split at he
        · split at he
          · split at he
            · obtain ⟨n, hn, e⟩ := Option.map_eq_some_iff.1 he
              simp only [Eff.val.injEq] at e
              obtain ⟨rfl, rfl, rfl⟩ := e
              rfl
            · split at he
              · split at he
                · split at he
                  · simp only [Option.some.injEq, Eff.val.injEq] at he
                    obtain ⟨rfl, rfl, rfl⟩ := he
                    rfl
                  · cases he
                · cases he
              · cases he
          · cases he
        · cases he
      · cases he
    · rename_i hc
      have hwr : writesB E o = true := by simp [writesB, ho, hc]
      split at he
      · rename_i x y hx
        have hxo := hargs x (by rw [hx]; simp)
        have hyo := hargs y (by rw [hx]; simp)
        split at he
        · rename_i av hav
          split at he
          · rename_i bv hbv
            split at he
            · rename_i T T' hTT
              split at he
              · rename_i e0 hty
                split at he
                · split at he
                  · exact appendE_frame he hk (fun h => hw (by unfold wkeys; rw [hwr, ho]; simp only [cond_true, hc, hx, hTT, hty]; exact keysAt_mem (one_ev hav) h))
                  · cases he
                · cases he
              · cases he
            · cases he
          · cases he
        · cases he
      · cases he
    · split at he
      · split at he
        · split at he
          · simp only [Option.some.injEq, Eff.val.injEq] at he
            obtain ⟨rfl, rfl, rfl⟩ := he
            rfl
          · cases he
        · cases he
      · cases he
    · split at he
      · split at he
        · split at he
          · simp only [Option.some.injEq, Eff.val.injEq] at he
            obtain ⟨rfl, rfl, rfl⟩ := he
            rfl
          · cases he
        · cases he
      · cases he
    · rename_i hc
      have hwr : writesB E o = true := by simp [writesB, ho, hc]
      have hw' : k ∉ touch o s := fun h => hw (by unfold wkeys; rw [hwr, ho]; simp only [cond_true, hc]; exact h)
      split at he
      · rename_i x y hx
        have hxo := hargs x (by rw [hx]; simp)
        split at he
        · rename_i k0 hav
          split at he
          · split at he
            · split at he
              · split at he
                · split at he
                  · simp only [Option.some.injEq, Eff.val.injEq] at he
                    obtain ⟨rfl, rfl, rfl⟩ := he
                    exact put_ne fun e => hw' (touch_mem hxo (one_ev hav) (by simp [Slot.keys, AV.keys, e]))
                  · cases he
                · cases he
              · cases he
            · cases he
          · cases he
        · cases he
      · cases he
    · cases he
  case h_19 fn first captured ho =>
    split at he
    · split at he
      · split at he
        · simp only [Option.some.injEq, Eff.val.injEq] at he
          obtain ⟨rfl, rfl, rfl⟩ := he
          rfl
        · cases he
      · cases he
    · cases he
  case h_20 t r0 ho =>
    split at he
    · split at he
      · simp only [Option.some.injEq, Eff.val.injEq] at he
        obtain ⟨rfl, rfl, rfl⟩ := he
        exact put_ne hk
      · cases he
    · cases he
  case h_21 t x ix cok ho =>
    split at he
    · split at he
      · obtain ⟨v1, hl, e⟩ := Option.map_eq_some_iff.1 he
        simp only [Eff.val.injEq] at e
        obtain ⟨rfl, rfl, rfl⟩ := e
        rfl
      · cases he
    · cases he
  case h_22 t x ix y ho =>
    have hw' : k ∉ touch o s := fun h => hw (wkeys_plain (by simp [writesB, ho]) (fun t x y e => by rw [ho] at e; cases e) (fun c e => by rw [ho] at e; cases e) h)
    have hx : x ∈ o.op.operands.toList := by rw [ho]; simp [Op.operands]
    have hy : y ∈ o.op.operands.toList := by rw [ho]; simp [Op.operands]
    split at he
    · rename_i av hav
      split at he
      · rename_i sl hsl
        split at he
        · rename_i vy hvy
          obtain ⟨r1, hl, e⟩ := Option.map_eq_some_iff.1 he
          simp only [Eff.val.injEq] at e
          obtain ⟨rfl, rfl, rfl⟩ := e
          unfold mapUpdateE at hl
          split at hl
          · rename_i k0
            split at hl
            · split at hl
              · split at hl
                · split at hl
                  · rename_i kt vt _ _ _ _ _ _ _ _
                    injection hl with hl
                    subst hl
                    rw [put_ne fun e => hw' (touch_mem hx (one_ev hav) (by simp [Slot.keys, AV.keys, e]))]
                    show (fz s.st _ _).get k = _
                    exact get_fz_of (.inr fun hr => hw' (touch_mem hy hvy (Slot.rows_keys hr)))
                  · cases hl
                · cases hl
              · cases hl
            · cases hl
          · cases hl
        · cases he
      · cases he
    · cases he
  case h_23 => cases he
theorem val_frame {c : Bool} {v : Slot} {r : Store} (he : evalOp E key o s = some (.val c v r)) {k : Nat} (hk : k ≠ key) (hw : k ∉ wkeys E o s) : r.get k = s.st.get k := by
  unfold evalOp at he
  split at he
  · rename_i e hX
    injection he with he
    subst he
    unfold evalX at hX
    split at hX
    · split at hX
      · injection hX with hX; injection hX with _ _ hX; subst hX; rfl
      · cases hX
    · rename_i op T x y T' ho
      cases hT : E.ptr T with
      | false => rw [hT] at hX; cases hX
      | true =>
        rw [hT] at hX
        simp only [cond_true] at hX
        split at hX
        · split at hX
          · split at hX
            · split at hX
              · injection hX with hX; injection hX with _ _ hX; subst hX; rfl
              · injection hX with hX; injection hX with _ _ hX; subst hX; rfl
              · cases hX
            · cases hX
          · cases hX
        · cases hX
    · split at hX
      · split at hX
        · split at hX
          · split at hX
            · split at hX
              · injection hX with hX; injection hX with _ _ hX; subst hX; rfl
              · cases hX
            · cases hX
          · cases hX
        · cases hX
      · cases hX
    · split at hX
      · split at hX
        · split at hX
          · split at hX
            · split at hX
              · injection hX with hX; injection hX with _ _ hX; subst hX; rfl
              · cases hX
            · cases hX
          · cases hX
        · cases hX
      · cases hX
    · split at hX
      · split at hX
        · injection hX with hX; injection hX with _ _ hX; subst hX; exact put_ne hk
        · cases hX
      · cases hX
    · split at hX
      · split at hX
        · injection hX with hX; injection hX with _ _ hX; subst hX; rfl
        · cases hX
      · cases hX
    · cases hX
  · exact val_frame0 he hk hw
theorem capsSlots_keys : ∀ {caps : List Nat} {l : List Slot}, capsSlots st caps = some l → l.flatMap Slot.keys = caps
  | [], l, h => by
    simp only [capsSlots, Option.some.injEq] at h
    subst h
    rfl
  | k :: r, l, h => by
    simp only [capsSlots] at h
    split at h
    · split at h
      · rename_i m hm
        injection h with h
        subst h
        simp only [List.flatMap_cons, Slot.keys, AV.keys, capsSlots_keys hm, List.cons_append, List.nil_append]
      · cases h
    · cases h
theorem capsSlots_congr : ∀ {caps : List Nat}, (∀ k ∈ caps, st1.get k = st2.get k) → capsSlots st2 caps = capsSlots st1 caps
  | [], _ => rfl
  | k :: r, h => by
    simp only [capsSlots]
    rw [h k (by simp), capsSlots_congr (caps := r) fun j hj => h j (by simp [hj])]
theorem extOf_ext {X : Nat → List Slot → Store → Option ExtR} {as : List Slot} (hx : extOf E o s = some (X, as)) : (∃ f, E.ext f = some X) ∧ writesB E o = true := by
  unfold extOf at hx
  split at hx
  · rename_i c ho
    split at hx
    · rename_i x hc
      split at hx
      · rename_i f caps hxf
        split at hx
        · rename_i X' hX'
          split at hx
          · split at hx
            · injection hx with hx
              injection hx with h1 h2
              subst h1
              refine ⟨⟨f, hX'⟩, ?_⟩
              unfold writesB
              rw [ho]
              simp only [hc]
              split
              · rename_i heq; cases heq
              · rename_i heq; cases heq
              · rename_i heq; cases heq
              · rename_i f' heq
                injection heq with heq
                subst heq
                simp only [St.ev, Option.some.injEq, Slot.one.injEq, AV.fn.injEq] at hxf
                rw [hxf.1, hX']
              · rfl
            · cases hx
          · cases hx
        · cases hx
      · cases hx
    · cases hx
  · cases hx
theorem extOf_call {X : Nat → List Slot → Store → Option ExtR} {as : List Slot} (hx : extOf E o s = some (X, as)) : ∃ c x, o.op = .call c ∧ c.callee = .value x := by
  unfold extOf at hx
  split at hx
  · rename_i c ho
    split at hx
    · rename_i x hc
      exact ⟨c, x, ho, hc⟩
    · cases hx
  · cases hx
theorem ext_touch {X : Nat → List Slot → Store → Option ExtR} {as : List Slot} (hx : extOf E o s = some (X, as)) {k : Nat} (hk : k ∈ reach s.st 3 (as.flatMap Slot.keys)) : k ∈ touch o s := by
  unfold extOf at hx
  split at hx
  · rename_i c ho
    split at hx
    · rename_i x hc
      split at hx
      · rename_i f caps hxf
        split at hx
        · split at hx
          · rename_i as' has
            split at hx
            · rename_i l hl
              injection hx with hx
              injection hx with h1 h2
              subst h1 h2
              have hcall : isCall o = true := by unfold isCall; rw [ho]; simp only [hc]
              unfold touch
              rw [isMove_call hcall, cond_false, hcall]
              refine reach_mono (fun j hj => ?_) hk
              rw [List.flatMap_append, List.mem_append] at hj
              unfold opKeys
              rcases hj with hj | hj
              · obtain ⟨sl, h1, h2⟩ := List.mem_flatMap.1 hj
                obtain ⟨z, h3, h4⟩ := evs_mem has sl h1
                refine List.mem_flatMap.2 ⟨z, ?_, by rw [h4]; exact h2⟩
                rw [ho]
                simp only [Op.operands, Call.operands, Array.toList_append, List.mem_append]
                exact .inr h3
              · rw [capsSlots_keys hl] at hj
                refine List.mem_flatMap.2 ⟨x, ?_, by rw [hxf]; exact hj⟩
                rw [ho]
                simp [Op.operands, Call.operands, hc]
            · cases hx
          · cases hx
        · cases hx
      · cases hx
    · cases hx
  · cases hx
theorem extOf_congr (h : Same o s1 s2) : extOf E o s2 = extOf E o s1 := by
  unfold extOf
  split
  · rename_i c ho
    have hm : ∀ x ∈ c.args.toList, x ∈ o.op.operands.toList := fun x hx => by
      rw [ho]
      simp only [Op.operands, Call.operands, Array.toList_append, List.mem_append]
      exact .inr hx
    split
    · rename_i x hc
      have hxo : x ∈ o.op.operands.toList := by rw [ho]; simp [Op.operands, Call.operands, hc]
      rw [h.ev x hxo, evs_congr fun z hz => h.ev z (hm z hz)]
      cases hev : s1.ev x with
      | none => rfl
      | some sl =>
        cases sl with
        | one av =>
          cases av with
          | fn f caps => simp only [capsSlots_congr (caps := caps) (h.keys hxo hev)]
          | _ => rfl
        | _ => rfl
    · rfl
  · rfl
theorem stepD_congr (okx : ∀ f X, E.ext f = some X → ExtLocal X) (h : Same o s1 s2) {v : Slot} {r : Store} (he : stepD E key o s1 = some (v, r)) : ∃ r', stepD E key o s2 = some (v, r') ∧ ∀ k, s1.st.get k = s2.st.get k → r.get k = r'.get k := by
  unfold stepD at he ⊢
  rw [extOf_congr h]
  split at he
  · rename_i X as hx
    obtain ⟨D, d, out, hX, he⟩ := extGo_some he
    obtain ⟨f0, hf0⟩ := (extOf_ext hx).1
    obtain ⟨R', d', h1, h2, h3, h4⟩ := (okx _ _ hf0).congr key as s1.st s2.st _ d hX rfl fun k hk => h.st k (ext_touch hx hk)
    rw [show (ExtR.out ⟨D, some d, out⟩ d) = out d from rfl, he] at h3
    refine ⟨(R'.out d').2, (extGo_of (D := R'.D) (val := R'.val) (out := R'.out) (d := d') h1 h2).trans (congrArg some (Prod.ext h3 rfl)), fun k hk => ?_⟩
    have := h4 k hk
    rw [show (ExtR.out ⟨D, some d, out⟩ d) = out d from rfl, he] at this
    exact this
  split at he
  · rename_i c x y hkd
    have ho := kind_pick hkd
    have hm : ∀ z, z = c ∨ z = x ∨ z = y → z ∈ o.op.operands.toList := fun z hz => by
      rw [ho]; simp only [Op.operands]; rcases hz with rfl | rfl | rfl <;> simp
    have hp : pickV c x y s2 = pickV c x y s1 := by
      unfold pickV
      rw [h.bool (hm c (.inl rfl)), h.ev x (hm x (.inr (.inl rfl))), h.ev y (hm y (.inr (.inr rfl)))]
    simp only [hp]
    split at he
    · simp only [Option.some.injEq, Prod.mk.injEq] at he
      obtain ⟨rfl, rfl⟩ := he
      exact ⟨_, rfl, fun k h => h⟩
    · cases he
  · rename_i f args hkd
    obtain ⟨c, ho, hc, rfl⟩ := kind_call hkd
    have hm : ∀ x ∈ c.args.toList, x ∈ o.op.operands.toList := fun x hx => by
      rw [ho]
      simp only [Op.operands, Call.operands, Array.toList_append, List.mem_append]
      exact .inr hx
    split at he
    · rename_i sp x st' hcv
      split at he
      · rename_i r0 hr
        simp only [Option.some.injEq, Prod.mk.injEq] at he
        obtain ⟨rfl, rfl⟩ := he
        unfold callV at hcv ⊢
        split at hcv
        · rename_i sp' hsp
          split at hcv
          · rename_i as has
            have hkeys : ∀ k ∈ as.flatMap Slot.keys, s1.st.get k = s2.st.get k := fun k hk => by
              obtain ⟨sl, h1, h2⟩ := List.mem_flatMap.1 hk
              obtain ⟨z, h3, h4⟩ := evs_mem has sl h1
              exact (h.keys (hm z h3) h4) k h2
            have hkeys1 : ∀ k ∈ reach s1.st 1 (as.flatMap Slot.keys), s1.st.get k = s2.st.get k := fun k hk => by
              refine h.st k ?_
              have hcall : isCall o = true := by unfold isCall; rw [ho]; simp only [hc]
              unfold touch
              rw [isMove_call hcall, cond_false, hcall]
              have h3 : k ∈ reach s1.st 1 (opKeys o s1) := reach1_mono (fun j hj => by
                obtain ⟨sl, h1, h2⟩ := List.mem_flatMap.1 hj
                obtain ⟨z, h3, h4⟩ := evs_mem has sl h1
                unfold opKeys
                exact List.mem_flatMap.2 ⟨z, hm z h3, by rw [h4]; exact h2⟩) k hk
              simp only [cond_true]
              show k ∈ reach s1.st (2 + 1) (opKeys o s1)
              simp only [reach, List.mem_append] at h3 ⊢
              rcases h3 with h3 | h3
              · exact .inl h3
              · exact .inr (.inl h3)
            split at hcv
            · rename_i x' hx
              split at hcv
              · rename_i hf
                simp only [Option.some.injEq, Sigma.mk.injEq] at hcv
                obtain ⟨rfl, hcv⟩ := hcv
                have hcv := eq_of_heq hcv
                simp only [Prod.mk.injEq] at hcv
                obtain ⟨rfl, rfl⟩ := hcv
                rw [args_congr hkeys, argsC_congr hkeys1] at hx
                refine ⟨resStore sp'.outs r0 key (fz s2.st (outsHold sp'.outs) (as.flatMap Slot.rows)), ?_, fun k h => resStore_pw _ _ _ (fz_pw (b := outsHold sp'.outs) h)⟩
                simp only [hsp, evs_congr fun z hz => h.ev z (hm z hz), has, hx, if_pos hf, hr]
                rfl
              · cases hcv
            · cases hcv
          · cases hcv
        · cases hcv
      · cases he
    · cases he
  · split at he
    · rename_i c v' st' hev
      obtain ⟨r', h1, h2⟩ := val_congr h hev
      split at he
      · rename_i hc
        simp only [Option.some.injEq, Prod.mk.injEq] at he
        obtain ⟨rfl, rfl⟩ := he
        exact ⟨r', by simp only [h1, if_pos hc], h2⟩
      · cases he
    · cases he
theorem stepD_frame (okx : ∀ f X, E.ext f = some X → ExtLocal X) {v : Slot} {r : Store} (he : stepD E key o s = some (v, r)) {k : Nat} (hk : k < key ∨ key + 16 ≤ k) (hw : k ∉ wkeys E o s) : r.get k = s.st.get k := by
  unfold stepD at he
  split at he
  · rename_i X as hx
    obtain ⟨D, d, out, hX, he⟩ := extGo_some he
    obtain ⟨f0, hf0⟩ := (extOf_ext hx).1
    have := (okx _ _ hf0).frame key as s.st _ d k hX rfl hk fun hr => hw (wkeys_call (extOf_ext hx).2 (extOf_call hx) (ext_touch hx hr))
    rw [show (ExtR.out ⟨D, some d, out⟩ d) = out d from rfl, he] at this
    exact this
  split at he
  · split at he
    · simp only [Option.some.injEq, Prod.mk.injEq] at he
      obtain ⟨rfl, rfl⟩ := he
      rfl
    · cases he
  · rename_i f args hkd
    obtain ⟨c, ho, hc, rfl⟩ := kind_call hkd
    have hm : ∀ x ∈ c.args.toList, x ∈ o.op.operands.toList := fun x hx => by
      rw [ho]
      simp only [Op.operands, Call.operands, Array.toList_append, List.mem_append]
      exact .inr hx
    split at he
    · rename_i sp x st' hcv
      split at he
      · rename_i r0 hr
        simp only [Option.some.injEq, Prod.mk.injEq] at he
        obtain ⟨rfl, rfl⟩ := he
        unfold callV at hcv
        split at hcv
        · rename_i sp' hsp
          split at hcv
          · rename_i as has
            split at hcv
            · rename_i x' hx
              split at hcv
              · rename_i hf
                simp only [Option.some.injEq, Sigma.mk.injEq] at hcv
                obtain ⟨rfl, hcv⟩ := hcv
                have hcv := eq_of_heq hcv
                simp only [Prod.mk.injEq] at hcv
                obtain ⟨rfl, rfl⟩ := hcv
                rw [get_resStore, if_neg (by omega)]
                cases ht : outsHold sp'.outs with
                | false => rfl
                | true =>
                  refine get_fz_of (b := true) (.inr fun hr => hw (wkeys_call (by unfold writesB; rw [ho]; simp only [hc, hsp, ht]; cases E.ext f <;> rfl) ⟨c, _, ho, hc⟩ ?_))
                  obtain ⟨sl, h1, h2⟩ := List.mem_flatMap.1 hr
                  obtain ⟨z, h3, h4⟩ := evs_mem has sl h1
                  exact touch_mem (hm z h3) h4 (Slot.rows_keys h2)
              · cases hcv
            · cases hcv
          · cases hcv
        · cases hcv
      · cases he
    · cases he
  · split at he
    · rename_i c v' st' hev
      split at he
      · simp only [Option.some.injEq, Prod.mk.injEq] at he
        obtain ⟨rfl, rfl⟩ := he
        exact val_frame hev (by omega) hw
      · cases he
    · cases he
theorem ev_congr {x : Operand} (h : ∀ t ∈ tmpOf x, s2.tmps[t]? = s1.tmps[t]?) : s2.ev x = s1.ev x := by
  cases x with
  | tmp t => exact h t (by simp [tmpOf])
  | _ => rfl
theorem stepG_congr (okx : ∀ f X, E.ext f = some X → ExtLocal X) {ops : Array Oper} (ht : ∀ t ∈ looks ops o, s2.tmps[t]? = s1.tmps[t]?) (hst : ∀ k ∈ touch o s1, s1.st.get k = s2.st.get k) {v : Slot} {r : Store} (he : stepG E ops key o s1 = some (v, r)) :
    ∃ r', stepG E ops key o s2 = some (v, r') ∧ ∀ k, s1.st.get k = s2.st.get k → r.get k = r'.get k := by
  have hsame : Same o s1 s2 := ⟨fun x hx => ev_congr fun t hx' => ht t (by unfold looks; exact List.mem_append.2 (.inl (List.mem_flatMap.2 ⟨x, hx, hx'⟩))), hst⟩
  have hg : guardOf ops o s2 = guardOf ops o s1 := by
    unfold guardOf
    cases hgo : o.guard with
    | none => rfl
    | some jw =>
      obtain ⟨j, want⟩ := jw
      simp only
      cases hd : (ops[j]?).bind (·.dst) with
      | none => rfl
      | some t =>
        simp only
        rw [ht t (by unfold looks; rw [hgo]; simp [hd])]
  unfold stepG at he ⊢
  simp only [hg]
  split at he
  · cases he
  · exact stepD_congr okx hsame he
  · simp only [Option.some.injEq, Prod.mk.injEq] at he
    obtain ⟨rfl, rfl⟩ := he
    exact ⟨s2.st, rfl, fun k h => h⟩
  · split at he
    · rename_i hb
      obtain ⟨r', h1, h2⟩ := stepD_congr okx hsame he
      exact ⟨r', by rw [if_pos hb]; exact h1, h2⟩
    · rename_i hb
      simp only [Option.some.injEq, Prod.mk.injEq] at he
      obtain ⟨rfl, rfl⟩ := he
      exact ⟨s2.st, by rw [if_neg hb], fun k h => h⟩
theorem stepG_frame (okx : ∀ f X, E.ext f = some X → ExtLocal X) {ops : Array Oper} {v : Slot} {r : Store} (he : stepG E ops key o s = some (v, r)) {k : Nat} (hk : k < key ∨ key + 16 ≤ k) (hw : k ∉ wkeys E o s) : r.get k = s.st.get k := by
  unfold stepG at he
  split at he
  · cases he
  · exact stepD_frame okx he hk hw
  · simp only [Option.some.injEq, Prod.mk.injEq] at he
    obtain ⟨rfl, rfl⟩ := he
    rfl
  · split at he
    · exact stepD_frame okx he hk hw
    · simp only [Option.some.injEq, Prod.mk.injEq] at he
      obtain ⟨rfl, rfl⟩ := he
      rfl
end Go.Ev
end
section
set_option linter.unusedVariables false
set_option linter.unusedSimpArgs false
namespace Go.Ev
open Go.RowKit
variable {P : Program} {E : Env} {ops : Array Oper} {base : Nat} {s0 : St}
noncomputable def textSt (E : Env) (ops : Array Oper) (base : Nat) (s0 : St) : Nat → St
  | 0 => s0
  | i + 1 => match ops[i]? with
    | some o => match stepG E ops (base + 16 * i) o (textSt E ops base s0 i) with
      | some (v, st) => (textSt E ops base s0 i).after o.dst v st
      | none => textSt E ops base s0 i
    | none => textSt E ops base s0 i
def befs (ops : Array Oper) : Nat → List (Nat × Nat)
  | 0 => []
  | i + 1 => match ops[i]? with
    | some o => (i, befOf o (befs ops i)) :: befs ops i
    | none => befs ops i
noncomputable def rowsAt (E : Env) (ops : Array Oper) (base : Nat) (s0 : St) : Nat → List Row
  | 0 => []
  | i + 1 => match ops[i]? with
    | some o => rowOf E ops i o (textSt E ops base s0 i) (befs ops i) :: rowsAt E ops base s0 i
    | none => rowsAt E ops base s0 i
noncomputable def rw_ (E : Env) (ops : Array Oper) (base : Nat) (s0 : St) (i : Nat) (o : Oper) : Row := rowOf E ops i o (textSt E ops base s0 i) (befs ops i)
structure TextOk (E : Env) (ops : Array Oper) (base : Nat) (s0 : St) : Prop where
  step : ∀ j o, ops[j]? = some o → ∃ v st, stepG E ops (base + 16 * j) o (textSt E ops base s0 j) = some (v, st)
  row : ∀ j o, ops[j]? = some o → rowOk base (rw_ E ops base s0 j o) (rowsAt E ops base s0 j) = true
  okx : ∀ f X, E.ext f = some X → ExtLocal X
theorem text_of_run {R : Type} {K : St → Option R} {r : R} : ∀ (l : List Oper) (i : Nat), ops.toList.drop i = l → runOpsD E ops base i l (textSt E ops base s0 i) (befs ops i) (rowsAt E ops base s0 i) K = some r →
    (∀ j o, i ≤ j → ops[j]? = some o → (∃ v st, stepG E ops (base + 16 * j) o (textSt E ops base s0 j) = some (v, st)) ∧ rowOk base (rw_ E ops base s0 j o) (rowsAt E ops base s0 j) = true) ∧ K (textSt E ops base s0 (max i ops.size)) = some r
  | [], i, hl, he => by
    have hi : ops.size ≤ i := by simpa using hl
    refine ⟨fun j o hj ho => ?_, ?_⟩
    · have := (Array.getElem?_eq_some_iff.1 ho).1
      omega
    · rw [Nat.max_eq_left hi]
      exact he
  | o :: rest, i, hl, he => by
    have hoi : ops[i]? = some o := by
      have : (ops.toList.drop i)[0]? = some o := by rw [hl]; rfl
      simpa [List.getElem?_drop] using this
    have hlt := (Array.getElem?_eq_some_iff.1 hoi).1
    have hl' : ops.toList.drop (i + 1) = rest := by
      rw [← List.drop_drop, hl]
      rfl
    simp only [runOpsD] at he
    split at he
    · rename_i hrow
      obtain ⟨v, st, h1, h2⟩ := runG_step he
      have ht : textSt E ops base s0 (i + 1) = (textSt E ops base s0 i).after o.dst v st := by simp [textSt, hoi, h1]
      have hr : rowsAt E ops base s0 (i + 1) = rowOf E ops i o (textSt E ops base s0 i) (befs ops i) :: rowsAt E ops base s0 i := by simp [rowsAt, hoi]
      have hb : befs ops (i + 1) = (i, befOf o (befs ops i)) :: befs ops i := by simp [befs, hoi]
      rw [← ht, ← hr, ← hb] at h2
      obtain ⟨g1, g2⟩ := text_of_run rest (i + 1) hl' h2
      refine ⟨fun j p hj hp => ?_, ?_⟩
      · rcases Nat.eq_or_lt_of_le hj with rfl | hj'
        · rw [hoi] at hp
          injection hp with hp
          subst hp
          exact ⟨⟨v, st, h1⟩, hrow⟩
        · exact g1 j p hj' hp
      · rw [show max i ops.size = max (i + 1) ops.size by omega]
        exact g2
    · cases he
section text
theorem textSt_succ (T : TextOk E ops base s0) {i : Nat} {o : Oper} (ho : ops[i]? = some o) {v : Slot} {st : Store} (he : stepG E ops (base + 16 * i) o (textSt E ops base s0 i) = some (v, st)) : textSt E ops base s0 (i + 1) = (textSt E ops base s0 i).after o.dst v st := by
  simp [textSt, ho, he]
theorem mem_rowsAt {j : Nat} {o : Oper} (ho : ops[j]? = some o) : ∀ {i : Nat}, j < i → rw_ E ops base s0 j o ∈ rowsAt E ops base s0 i
  | 0, h => by omega
  | i + 1, h => by
    unfold rowsAt
    by_cases hj : j = i
    · subst hj
      rw [ho]
      exact List.mem_cons_self ..
    · have := mem_rowsAt ho (i := i) (by omega)
      split
      · exact List.mem_cons_of_mem _ this
      · exact this
def Closed (ops : Array Oper) (X : Nat → Prop) : Prop := ∀ j o, ops[j]? = some o → X j → ∀ e ∈ edges o, X e
theorem hasBit_eq (m i : Nat) : hasBit m i = m.testBit i := by
  unfold hasBit Nat.testBit
  have e1 : Nat.land (Nat.shiftRight m i) 1 = 1 &&& m >>> i := by
    show (m >>> i) &&& 1 = _
    rw [Nat.and_comm]
  rw [e1]
  cases h : (1 &&& m >>> i) with
  | zero => rfl
  | succ n => rfl
theorem bitOf_test (e j : Nat) : (bitOf e).testBit j = decide (e = j) := by
  show ((1 <<< e : Nat)).testBit j = _
  rw [Nat.one_shiftLeft, Nat.testBit_two_pow]
theorem befFind_mem {e : Nat} : ∀ {b : List (Nat × Nat)} {j : Nat}, (befFind e b).testBit j = true → ∃ p ∈ b, p.1 = e ∧ p.2.testBit j = true
  | [], j, h => by simp [befFind] at h
  | p :: r, j, h => by
    simp only [befFind] at h
    cases hb : Nat.beq p.1 e with
    | true =>
      rw [hb] at h
      exact ⟨p, List.mem_cons_self, Nat.eq_of_beq_eq_true hb, h⟩
    | false =>
      rw [hb] at h
      obtain ⟨q, h1, h2⟩ := befFind_mem h
      exact ⟨q, List.mem_cons_of_mem _ h1, h2⟩
theorem befEdges_mem {b : List (Nat × Nat)} : ∀ {l : List Nat} {j : Nat}, (befEdges b l).testBit j = true ↔ ∃ e ∈ l, e = j ∨ (befFind e b).testBit j = true
  | [], j => by simp [befEdges]
  | e :: r, j => by
    show ((bitOf e ||| befFind e b) ||| befEdges b r).testBit j = true ↔ _
    rw [Nat.testBit_or, Nat.testBit_or, Bool.or_eq_true, Bool.or_eq_true, befEdges_mem, bitOf_test, decide_eq_true_eq]
    simp
theorem befs_mem {i : Nat} {p : Nat × Nat} : p ∈ befs ops i → ∃ o, p.1 < i ∧ ops[p.1]? = some o ∧ p.2 = befOf o (befs ops p.1) := by
  induction i with
  | zero => intro h; cases h
  | succ i ih =>
    intro h
    unfold befs at h
    split at h
    · rename_i o ho
      rcases List.mem_cons.1 h with rfl | h
      · exact ⟨o, Nat.lt_succ_self _, ho, rfl⟩
      · obtain ⟨o', h1, h2⟩ := ih h
        exact ⟨o', by omega, h2⟩
    · obtain ⟨o', h1, h2⟩ := ih h
      exact ⟨o', by omega, h2⟩
theorem row_facts (T : TextOk E ops base s0) {i : Nat} {o : Oper} (ho : ops[i]? = some o) : (∀ j, (rw_ E ops base s0 i o).before.testBit j = true → j < i) ∧ (∀ k ∈ touch o (textSt E ops base s0 i), k < base ∨ (rw_ E ops base s0 i o).before.testBit ((k - base) / 16) = true) ∧
    (∀ j p, j < i → ops[j]? = some p → (rw_ E ops base s0 i o).before.testBit j = true ∨ apart (rw_ E ops base s0 j p) (rw_ E ops base s0 i o) = true) := by
  have h := T.row i o ho
  simp only [rowOk, Bool.and_eq_true, List.all_eq_true, Bool.or_eq_true, decide_eq_true_eq, hasBit_eq, Nat.ble_eq] at h
  obtain ⟨⟨h1, h2⟩, h3⟩ := h
  refine ⟨fun j hj => ?_, h2, fun j p hj hp => h3 _ (mem_rowsAt hp hj)⟩
  have hge := Nat.ge_two_pow_of_testBit hj
  have h1 : (rw_ E ops base s0 i o).before + 1 ≤ 2 ^ i := h1
  exact (Nat.pow_lt_pow_iff_right (by omega)).1 (Nat.lt_of_le_of_lt hge h1)
theorem before_closed (T : TextOk E ops base s0) {X : Nat → Prop} (hX : Closed ops X) : ∀ (i : Nat) (o : Oper), ops[i]? = some o → (∀ e ∈ edges o, X e) → ∀ j, (rw_ E ops base s0 i o).before.testBit j = true → X j := by
  intro i
  induction i using Nat.strongRecOn with
  | _ i ih =>
    intro o ho he j hj
    obtain ⟨e, h1, h2⟩ := befEdges_mem.1 (show (befEdges (befs ops i) (edges o)).testBit j = true from hj)
    rcases h2 with rfl | h3
    · exact he _ h1
    · obtain ⟨p, g1, g2, g3⟩ := befFind_mem h3
      obtain ⟨p', k1, k2, k3⟩ := befs_mem g1
      rw [g2] at k1 k2 k3
      rw [k3] at g3
      exact ih _ k1 p' k2 (hX _ p' k2 (he _ h1)) j g3
def Mod (E : Env) (ops : Array Oper) (base : Nat) (s0 : St) (j k : Nat) : Prop := ∃ o, ops[j]? = some o ∧ (k ∈ wkeys E o (textSt E ops base s0 j) ∨ (base + 16 * j ≤ k ∧ k < base + 16 * j + 16))
def Dst (ops : Array Oper) (j t : Nat) : Prop := ∃ o, ops[j]? = some o ∧ o.dst = some t
def Last {α : Type} (X : Nat → Prop) (M : Nat → Prop) (first : α) (at_ : Nat → α) (x : α) : Prop :=
  ((∀ j, X j → ¬ M j) ∧ x = first) ∨ ∃ j, X j ∧ M j ∧ (∀ j', X j' → M j' → j' ≤ j) ∧ x = at_ j
theorem Last.same {α : Type} {X Y M : Nat → Prop} {first : α} {at_ : Nat → α} {x y : α} (h : Last X M first at_ x) (h' : Last Y M first at_ y) (hXY : ∀ j, M j → (X j ↔ Y j)) : x = y := by
  rcases h with ⟨h1, rfl⟩ | ⟨j, h1, h2, h3, rfl⟩ <;> rcases h' with ⟨g1, rfl⟩ | ⟨i, g1, g2, g3, rfl⟩
  · rfl
  · exact absurd g2 (h1 i ((hXY i g2).2 g1))
  · exact absurd h2 (g1 j ((hXY j h2).1 h1))
  · have e1 := h3 i ((hXY i g2).2 g1) g2
    have e2 := g3 j ((hXY j h2).1 h1) h2
    rw [Nat.le_antisymm e1 e2]
theorem text_key (T : TextOk E ops base s0) (k : Nat) : ∀ i, i ≤ ops.size → Last (· < i) (fun j => Mod E ops base s0 j k) (s0.st.get k) (fun j => (textSt E ops base s0 (j + 1)).st.get k) ((textSt E ops base s0 i).st.get k)
  | 0, _ => .inl ⟨fun j hj => by omega, rfl⟩
  | i + 1, hi => by
    have hoi : ops[i]? = some ops[i] := Array.getElem?_eq_getElem (by omega)
    by_cases hm : Mod E ops base s0 i k
    · exact .inr ⟨i, by omega, hm, fun j' h _ => by omega, rfl⟩
    · obtain ⟨v, st, he⟩ := T.step i _ hoi
      have ht := textSt_succ T hoi he
      have hk : (textSt E ops base s0 (i + 1)).st.get k = (textSt E ops base s0 i).st.get k := by
        rw [ht]
        have : ((textSt E ops base s0 i).after ops[i].dst v st).st = st := by cases ops[i].dst <;> rfl
        rw [this]
        refine stepG_frame T.okx he ?_ fun ht' => hm ⟨_, hoi, .inl ht'⟩
        by_cases h1 : k < base + 16 * i
        · exact .inl h1
        · by_cases h2 : base + 16 * i + 16 ≤ k
          · exact .inr h2
          · exact absurd ⟨_, hoi, .inr ⟨by omega, by omega⟩⟩ hm
      rw [hk]
      rcases text_key T k i (by omega) with ⟨h1, h2⟩ | ⟨j, h1, h2, h3, h4⟩
      · refine .inl ⟨fun j hj hmj => ?_, h2⟩
        rcases Nat.lt_succ_iff_lt_or_eq.1 hj with hj | rfl
        · exact h1 j hj hmj
        · exact hm hmj
      · refine .inr ⟨j, by omega, h2, fun j' hj' hm' => ?_, h4⟩
        rcases Nat.lt_succ_iff_lt_or_eq.1 hj' with hj' | rfl
        · exact h3 j' hj' hm'
        · exact absurd hm' hm
theorem after_tmps (s : St) (d : Option Tmp) (v : Slot) (st : Store) : (s.after d v st).tmps = (match d with | some t => s.tmps.set t v | none => s.tmps) := by cases d <;> rfl
theorem text_len (T : TextOk E ops base s0) : ∀ i, (textSt E ops base s0 i).tmps.length = s0.tmps.length
  | 0 => rfl
  | i + 1 => by
    cases ho : ops[i]? with
    | none => simp only [textSt, ho]; exact text_len T i
    | some o =>
      obtain ⟨v, st, he⟩ := T.step i o ho
      rw [textSt_succ T ho he, after_tmps, ← text_len T i]
      cases o.dst <;> simp
theorem text_tmp (T : TextOk E ops base s0) (t : Nat) : ∀ i, i ≤ ops.size → Last (· < i) (fun j => Dst ops j t) (s0.tmps[t]?) (fun j => (textSt E ops base s0 (j + 1)).tmps[t]?) ((textSt E ops base s0 i).tmps[t]?)
  | 0, _ => .inl ⟨fun j hj => by omega, rfl⟩
  | i + 1, hi => by
    have hoi : ops[i]? = some ops[i] := Array.getElem?_eq_getElem (by omega)
    by_cases hm : Dst ops i t
    · exact .inr ⟨i, by omega, hm, fun j' h _ => by omega, rfl⟩
    · obtain ⟨v, st, he⟩ := T.step i _ hoi
      have ht := textSt_succ T hoi he
      have hk : (textSt E ops base s0 (i + 1)).tmps[t]? = (textSt E ops base s0 i).tmps[t]? := by
        rw [ht, after_tmps]
        cases hd : ops[i].dst with
        | none => rfl
        | some d => exact List.getElem?_set_ne fun e => hm ⟨_, hoi, by rw [hd, e]⟩
      rw [hk]
      rcases text_tmp T t i (by omega) with ⟨h1, h2⟩ | ⟨j, h1, h2, h3, h4⟩
      · refine .inl ⟨fun j hj hmj => ?_, h2⟩
        rcases Nat.lt_succ_iff_lt_or_eq.1 hj with hj | rfl
        · exact h1 j hj hmj
        · exact hm hmj
      · refine .inr ⟨j, by omega, h2, fun j' hj' hm' => ?_, h4⟩
        rcases Nat.lt_succ_iff_lt_or_eq.1 hj' with hj' | rfl
        · exact h3 j' hj' hm'
        · exact absurd hm' hm
theorem key_ahead (T : TextOk E ops base s0) {X : Nat → Prop} (hX : Closed ops X) {i : Nat} {o : Oper} (ho : ops[i]? = some o) (hi : ¬ X i) (he : ∀ e ∈ edges o, X e) {k : Nat} (hk : k ∈ touch o (textSt E ops base s0 i) ∨ (base + 16 * i ≤ k ∧ k < base + 16 * i + 16)) {j : Nat} (hm : Mod E ops base s0 j k) (hne : j ≠ i) : X j ↔ j < i := by
  obtain ⟨p, hp, hm⟩ := hm
  obtain ⟨a1, a2, a3⟩ := row_facts T ho
  obtain ⟨b1, b2, b3⟩ := row_facts T hp
  have hbi := before_closed T hX i o ho he
  have hbj : X j → ∀ q, (rw_ E ops base s0 j p).before.testBit q = true → X q := fun hj => before_closed T hX j p hp (hX j p hp hj)
  have hdis : ∀ x y : Row, apart x y = true → (∀ k ∈ x.wr, k ∉ y.touch) ∧ ∀ k ∈ y.wr, k ∉ x.touch := fun x y ha => by
    simp only [apart, Bool.and_eq_true, disjoint, List.all_eq_true, Bool.not_eq_true', List.contains_eq_mem, decide_eq_false_iff_not] at ha
    exact ha.2
  rcases hm with hkw | ⟨g1, g2⟩
  · have hkj := wkeys_touch hkw
    rcases hk with hk | ⟨g1, g2⟩
    · rcases Nat.lt_or_gt_of_ne hne with hlt | hgt
      · rcases a3 j p hlt hp with h' | h'
        · exact ⟨fun _ => hlt, fun _ => hbi _ h'⟩
        · exact absurd hk ((hdis _ _ h').1 k hkw)
      · rcases b3 i o hgt ho with h' | h'
        · exact ⟨fun hj => absurd (hbj hj _ h') hi, fun h => by omega⟩
        · exact absurd hk ((hdis _ _ h').2 k hkw)
    · rcases b2 k hkj with h' | h'
      · omega
      · have hq : (k - base) / 16 = i := by omega
        rw [hq] at h'
        have := b1 _ h'
        exact ⟨fun hj => absurd (hbj hj _ h') hi, fun h => by omega⟩
  · rcases hk with hk | ⟨g3, g4⟩
    · rcases a2 k hk with h' | h'
      · omega
      · have hq : (k - base) / 16 = j := by omega
        rw [hq] at h'
        exact ⟨fun _ => a1 _ h', fun _ => hbi _ h'⟩
    · omega
theorem tmp_ahead (T : TextOk E ops base s0) {X : Nat → Prop} (hX : Closed ops X) {i : Nat} {o : Oper} (ho : ops[i]? = some o) (hi : ¬ X i) (he : ∀ e ∈ edges o, X e) {t : Nat} (ht : t ∈ looks ops o ∨ o.dst = some t) {j : Nat} (hm : Dst ops j t) (hne : j ≠ i) : X j ↔ j < i := by
  obtain ⟨p, hp, hm⟩ := hm
  obtain ⟨a1, a2, a3⟩ := row_facts T ho
  obtain ⟨b1, b2, b3⟩ := row_facts T hp
  have hbi := before_closed T hX i o ho he
  have hbj : X j → ∀ q, (rw_ E ops base s0 j p).before.testBit q = true → X q := fun hj => before_closed T hX j p hp (hX j p hp hj)
  rcases Nat.lt_or_gt_of_ne hne with hlt | hgt
  · rcases a3 j p hlt hp with h' | h'
    · exact ⟨fun _ => hlt, fun _ => hbi _ h'⟩
    · exfalso
      simp only [apart, rw_, rowOf, hm, Bool.and_eq_true, Bool.not_eq_true', beq_eq_false_iff_ne, ne_eq, List.contains_eq_mem, decide_eq_false_iff_not] at h'
      rcases ht with ht | ht
      · exact h'.1.1.1 ht
      · exact h'.1.1.2 ht
  · rcases b3 i o hgt ho with h' | h'
    · exact ⟨fun hj => absurd (hbj hj _ h') hi, fun h => by omega⟩
    · exfalso
      simp only [apart, rw_, rowOf, hm, Bool.and_eq_true, Bool.not_eq_true', beq_eq_false_iff_ne, ne_eq, List.contains_eq_mem, decide_eq_false_iff_not] at h'
      rcases ht with ht | ht
      · exact h'.1.2 ht
      · rw [ht] at h'
        simp at h'
end text
end Go.Ev
end
section
set_option linter.unusedVariables false
set_option linter.unusedSimpArgs false
namespace Go.Ev
open Go.RowKit
variable {P : Program} {E : Env} {ops : Array Oper} {base : Nat} {s0 : St} {w0 : Base} {w : World} {S0 : Nat → Prop} {hv : Hv} {a : Act} {Q : Exit → Act → World → Prop}
theorem Rel.drew {s : St} (h : Rel w0 S0 hv s a w) : Rel w0 S0 hv s a w.drew := by
  have hs : StepOk w (All S0 hv s.st) w.drew (All S0 hv s.st) := fun b h1 h2 => ⟨h1, rfl⟩
  exact ⟨h.st.change hs (Hv.le_refl _) (fun k o hk => .inl ⟨hk, rfl, fun _ _ _ _ => rfl⟩) h.st.inj h.st.out (h.st.names (Hv.le_refl _) (fun _ _ _ h => h) fun _ _ _ h => ⟨h, rfl, fun _ _ _ _ => rfl⟩), h.tmps.mono fun _ _ r => r.step hs (Hv.le_refl _), h.base, h.s0, h.keep.drew, h.dfr, h.gh, h.stp.trans hs, h.kp⟩
theorem Rel.ext {s s' : St} (h : Rel w0 S0 hv s a w) (ht : s'.tmps = s.tmps) (hg : ∀ k, s'.st.get k = s.st.get k) : Rel w0 S0 hv s' a w := by
  have hown : ∀ b, Own hv s'.st b ↔ Own hv s.st b := fun b => by
    unfold Own
    simp only [hg]
  have hall : All S0 hv s'.st = All S0 hv s.st := funext fun b => propext (by unfold All; rw [hown b])
  refine ⟨⟨fun k o hk => ?_, fun k o v k' o' v' b => ?_, fun b hb => h.st.out b ((hown b).1 hb), fun k d x v hk => ?_, fun k j i hk => ?_⟩, ?_, fun b hb => h.base b ((hown b).1 hb), h.s0, h.keep, h.dfr, fun k sl hk => h.gh k sl (by rwa [hg] at hk), by rw [hall]; exact h.stp, h.kp⟩
  · rw [hg] at hk
    rw [hall]
    exact h.st.objs k o hk
  · rw [hg, hg]
    exact h.st.inj k o v k' o' v' b
  · rw [hg] at hk
    rw [hall]
    exact h.st.deep k d x v hk
  · rw [hg] at hk
    obtain ⟨d, xs, v, b, o, len, cap, h1, h2⟩ := h.st.ali k j i hk
    exact ⟨d, xs, v, b, o, len, cap, by rw [hg]; exact h1, h2⟩
  · rw [ht, hall]
    exact h.tmps
structure Inv (E : Env) (ops : Array Oper) (base : Nat) (s0 : St) (w0 : Base) (S0 : Nat → Prop) (X : Nat → Prop) (σ : St) (hv : Hv) (a : Act) (w : World) : Prop where
  rel : Rel w0 S0 hv σ a w
  key : ∀ k, Last X (fun j => Mod E ops base s0 j k) (s0.st.get k) (fun j => (textSt E ops base s0 (j + 1)).st.get k) (σ.st.get k)
  tmp : ∀ t : Nat, Last X (fun j => Dst ops j t) (s0.tmps[t]?) (fun j => (textSt E ops base s0 (j + 1)).tmps[t]?) (σ.tmps[t]?)
  fresh : ∀ k, base ≤ k → ¬ X ((k - base) / 16) → hv k = none
  len : σ.tmps.length = s0.tmps.length
  nxt : σ.next = s0.next
theorem after_st (s : St) (d : Option Tmp) (v : Slot) (st : Store) : (s.after d v st).st = st := by cases d <;> rfl
theorem opKeys_congr {o : Oper} {s1 s2 : St} (h : ∀ x ∈ o.op.operands.toList, s2.ev x = s1.ev x) : opKeys o s2 = opKeys o s1 := by
  unfold opKeys
  have key : ∀ l : List Operand, (∀ x ∈ l, s2.ev x = s1.ev x) → (l.flatMap fun x => match s2.ev x with | some sl => sl.keys | none => []) = l.flatMap fun x => match s1.ev x with | some sl => sl.keys | none => [] := by
    intro l
    induction l with
    | nil => intro _; rfl
    | cons x r ih =>
      intro h
      simp only [List.flatMap_cons]
      rw [h x (by simp), ih fun y hy => h y (by simp [hy])]
  exact key _ h
theorem touch_congr {o : Oper} {s1 s2 : St} (h : ∀ x ∈ o.op.operands.toList, s2.ev x = s1.ev x) (hst : ∀ k ∈ touch o s1, s1.st.get k = s2.st.get k) : touch o s2 = touch o s1 := by
  unfold touch at hst ⊢
  rw [opKeys_congr h]
  cases hm : isMove o with
  | true => rfl
  | false =>
    rw [hm] at hst
    simp only [cond_false] at hst ⊢
    cases hc : isCall o
    · rfl
    · rw [hc] at hst
      exact reach_congr hst
theorem wkeys_congr {o : Oper} {s1 s2 : St} (h : ∀ x ∈ o.op.operands.toList, s2.ev x = s1.ev x) (ht : touch o s2 = touch o s1) : wkeys E o s2 = wkeys E o s1 := by
  have hk : ∀ x ∈ o.op.operands.toList, keysAt s2 x = keysAt s1 x := fun x hx => by unfold keysAt; rw [h x hx]
  unfold wkeys
  cases writesB E o with
  | false => rfl
  | true =>
    simp only [cond_true]
    split
    · rename_i t x y ho
      rw [hk x (by rw [ho]; simp [Op.operands]), hk y (by rw [ho]; simp [Op.operands])]
    · rename_i c ho
      have hargs : ∀ x ∈ c.args.toList, x ∈ o.op.operands.toList := fun x hx => by
        rw [ho]
        simp only [Op.operands, Call.operands, Array.toList_append, List.mem_append]
        exact .inr hx
      split
      · split
        · rename_i x y hxy
          split
          · split
            · rw [hk x (hargs x (by rw [hxy]; simp))]
            · exact ht
          · exact ht
        · exact ht
      · exact ht
    · exact ht
theorem Last.add {α : Type} {X : Nat → Prop} {M : Nat → Prop} {first : α} {at_ : Nat → α} {x : α} {i : Nat} (h : Last X M first at_ x) (hi : ¬ M i) : Last (fun j => X j ∨ j = i) M first at_ x := by
  rcases h with ⟨h1, h2⟩ | ⟨j, h1, h2, h3, h4⟩
  · exact .inl ⟨fun j hj hm => hj.elim (fun hj => h1 j hj hm) (fun e => hi (e ▸ hm)), h2⟩
  · exact .inr ⟨j, .inl h1, h2, fun j' hj hm => hj.elim (fun hj => h3 j' hj hm) (fun e => absurd (e ▸ hm) hi), h4⟩
theorem inv_step (ok : EnvOk w0.tr P E) (T : TextOk E ops base s0) {X : Nat → Prop} (hX : Closed ops X) {σ : St} (h : Inv E ops base s0 w0 S0 X σ hv a w) {i : Nat} {o : Oper} (ho : ops[i]? = some o) (hi : ¬ X i) (he : ∀ e ∈ edges o, X e) {K : Act → World → Prop}
    (hK : ∀ σ' hv' a' w', Inv E ops base s0 w0 S0 (fun j => X j ∨ j = i) σ' hv' a' w' → K a' w') : wpOp P ops Q i K a w := by
  have hlt := (Array.getElem?_eq_some_iff.1 ho).1
  obtain ⟨v, r, hst⟩ := T.step i o ho
  have hsucc := textSt_succ T ho hst
  have hkeq : ∀ k, (k ∈ touch o (textSt E ops base s0 i) ∨ (base + 16 * i ≤ k ∧ k < base + 16 * i + 16)) → σ.st.get k = (textSt E ops base s0 i).st.get k := fun k hk =>
    (h.key k).same (text_key T k i (by omega)) fun j hm => by
      by_cases hj : j = i
      · subst hj
        exact ⟨fun hx => absurd hx hi, fun hx => absurd hx (Nat.lt_irrefl _)⟩
      · exact key_ahead T hX ho hi he hk hm hj
  have hteq : ∀ t, (t ∈ looks ops o ∨ o.dst = some t) → σ.tmps[t]? = (textSt E ops base s0 i).tmps[t]? := fun t ht =>
    (h.tmp t).same (text_tmp T t i (by omega)) fun j hm => by
      by_cases hj : j = i
      · subst hj
        exact ⟨fun hx => absurd hx hi, fun hx => absurd hx (Nat.lt_irrefl _)⟩
      · exact tmp_ahead T hX ho hi he ht hm hj
  obtain ⟨r', hst', hpw⟩ := stepG_congr (fun f X hX => (ok.ext f X hX).2.2) (fun t ht => hteq t (.inl ht)) (fun k hk => (hkeq k (.inl hk)).symm) hst
  have hev : ∀ x ∈ o.op.operands.toList, σ.ev x = (textSt E ops base s0 i).ev x := fun x hx => ev_congr fun t ht => hteq t (.inl (by unfold looks; exact List.mem_append.2 (.inl (List.mem_flatMap.2 ⟨x, hx, ht⟩))))
  have htouch := touch_congr hev fun k hk => (hkeq k (.inl hk)).symm
  have hwk : wkeys E o σ = wkeys E o (textSt E ops base s0 i) := wkeys_congr hev htouch
  unfold wpOp
  rw [ho]
  refine stepG_sound ok h.rel (fun j hj => h.fresh _ (by omega) (by rw [show (base + 16 * i + j - base) / 16 = i by omega]; exact hi)) hst' fun hv' a' w' hrel hon => hK _ hv' a' w' ⟨hrel, fun k => ?_, fun t => ?_, fun k hk hn => ?_, ?_, (after_next _ _ _).trans h.nxt⟩
  · by_cases hm : Mod E ops base s0 i k
    · have htk : k ∈ touch o (textSt E ops base s0 i) ∨ (base + 16 * i ≤ k ∧ k < base + 16 * i + 16) := by
        obtain ⟨p, hp, hm⟩ := hm
        rw [ho] at hp
        injection hp with hp
        subst hp
        exact hm.imp wkeys_touch id
      refine .inr ⟨i, .inr rfl, hm, fun j' hj hm' => ?_, ?_⟩
      · rcases hj with hj | rfl
        · by_cases hne : j' = i
          · omega
          · have := (key_ahead T hX ho hi he htk hm' hne).1 hj
            omega
        · exact Nat.le_refl _
      · show ((σ.after o.dst v r').st).get k = (textSt E ops base s0 (i + 1)).st.get k
        rw [hsucc, after_st, after_st]
        exact (hpw k (hkeq k htk).symm).symm
    · have hsame : ((σ.after o.dst v r').st).get k = σ.st.get k := by
        rw [after_st]
        refine stepG_frame (fun f X hX => (ok.ext f X hX).2.2) hst' ?_ fun ht => hm ⟨o, ho, .inl (hwk ▸ ht)⟩
        by_cases h1 : k < base + 16 * i
        · exact .inl h1
        · by_cases h2 : base + 16 * i + 16 ≤ k
          · exact .inr h2
          · exact absurd ⟨o, ho, .inr ⟨by omega, by omega⟩⟩ hm
      rw [hsame]
      exact (h.key k).add hm
  · by_cases hm : Dst ops i t
    · have hd : o.dst = some t := by
        obtain ⟨p, hp, hm⟩ := hm
        rw [ho] at hp
        injection hp with hp
        exact hp ▸ hm
      refine .inr ⟨i, .inr rfl, hm, fun j' hj hm' => ?_, ?_⟩
      · rcases hj with hj | rfl
        · by_cases hne : j' = i
          · omega
          · have := (tmp_ahead T hX ho hi he (.inr hd) hm' hne).1 hj
            omega
        · exact Nat.le_refl _
      · show (σ.after o.dst v r').tmps[t]? = (textSt E ops base s0 (i + 1)).tmps[t]?
        rw [hsucc, after_tmps, after_tmps, hd]
        simp only
        have hl1 := h.len
        have hl2 := text_len T i
        by_cases hlt2 : t < s0.tmps.length
        · rw [List.getElem?_set_self (by omega), List.getElem?_set_self (by omega)]
        · rw [List.getElem?_eq_none (by simp; omega), List.getElem?_eq_none (by simp; omega)]
    · have hsame : (σ.after o.dst v r').tmps[t]? = σ.tmps[t]? := by
        rw [after_tmps]
        cases hd : o.dst with
        | none => rfl
        | some d => exact List.getElem?_set_ne fun e => hm ⟨o, ho, by rw [hd, e]⟩
      rw [hsame]
      exact (h.tmp t).add hm
  · rw [hon k (by
      by_cases h1 : k < base + 16 * i
      · exact .inl h1
      · by_cases h2 : base + 16 * i + 16 ≤ k
        · exact .inr h2
        · exact absurd (.inr (by omega)) hn)]
    exact h.fresh k hk fun hx => hn (.inl hx)
  · rw [after_tmps]
    cases o.dst with
    | none => exact h.len
    | some d => simpa using h.len
theorem draw_sound (ok : EnvOk w0.tr P E) (hmix : P.follows .mixedOrders = true) (T : TextOk E ops base s0) (h : Rel w0 S0 hv s0 a w) (hf : ∀ j, base ≤ j → hv j = none) {id : Nat}
    (hQ : ∀ hv' a' w', Rel w0 S0 hv' (textSt E ops base s0 ops.size) a' w' → (∀ j, base + 16 * ops.size ≤ j → hv' j = none) → Q .normal a' w') : (Code.region id ops true).wp P Q a w := by
  refine wp_region_any hmix ?_
  have key : ∀ (fuel : Nat) (listed : Array Bool) (σ : St) (hv : Hv) (a : Act) (w : World), listed.size = ops.size → Inv E ops base s0 w0 S0 (fun j => listed.getD j false = true) σ hv a w → Closed ops (fun j => listed.getD j false = true) →
      ((List.range ops.size).filter fun i => !listed.getD i true).length = fuel → wpAny P .any ops Q fuel listed a w := by
    intro fuel
    have hend : ∀ (listed : Array Bool) (σ : St) (hv : Hv) (a : Act) (w : World), listed.size = ops.size → Inv E ops base s0 w0 S0 (fun j => listed.getD j false = true) σ hv a w → (∀ i, i < ops.size → listed.getD i false = true) → Q .normal a w := by
      intro listed σ hv a w hsz hI hall
      refine hQ hv a w (hI.rel.ext ?_ fun k => ?_) fun j hj => hI.fresh j (by omega) fun hx => ?_
      · apply List.ext_getElem?
        intro t
        exact ((hI.tmp t).same (text_tmp T t ops.size (Nat.le_refl _)) fun j hm => by
          obtain ⟨p, hp, _⟩ := hm
          have := (Array.getElem?_eq_some_iff.1 hp).1
          exact ⟨fun _ => this, fun _ => hall j this⟩).symm
      · exact ((hI.key k).same (text_key T k ops.size (Nat.le_refl _)) fun j hm => by
          obtain ⟨p, hp, _⟩ := hm
          have := (Array.getElem?_eq_some_iff.1 hp).1
          exact ⟨fun _ => this, fun _ => hall j this⟩).symm
      · have hlt : (j - base) / 16 < listed.size := by
          rcases Nat.lt_or_ge ((j - base) / 16) listed.size with h' | h'
          · exact h'
          · simp [Array.getD_eq_getD_getElem?, Array.getElem?_eq_none h'] at hx
        omega
    have hready : ∀ (listed : Array Bool) (i : Nat), i ∈ Region.ready .any ops listed → ∃ o, ops[i]? = some o ∧ listed.getD i true = false ∧ ∀ e ∈ edges o, listed.getD e false = true := by
      intro listed i hi
      simp only [Region.ready, List.mem_filter, List.mem_range, Bool.and_eq_true, Bool.not_eq_true'] at hi
      obtain ⟨h1, h2, h3⟩ := hi
      refine ⟨ops[i], Array.getElem?_eq_getElem h1, h2, fun e he => ?_⟩
      simp only [Array.getElem?_eq_getElem h1, Option.map_some, Option.getD_some, Array.all_eq_true'] at h3
      simp only [edges, List.mem_map, List.mem_filter] at he
      obtain ⟨g, ⟨g1, g2⟩, rfl⟩ := he
      have := h3 g (Array.mem_toList_iff.1 g1)
      simpa [g2] using this
    have hnone : ∀ (listed : Array Bool), listed.size = ops.size → Region.ready .any ops listed = [] → ∀ i, i < ops.size → listed.getD i false = true := by
      intro listed hsz hr i
      induction i using Nat.strongRecOn with
      | _ i ih =>
        intro hi
        by_cases hl : listed.getD i false = true
        · exact hl
        · exfalso
          have hmem : i ∈ Region.ready .any ops listed := by
            simp only [Region.ready, List.mem_filter, List.mem_range, Bool.and_eq_true, Bool.not_eq_true']
            refine ⟨hi, ?_, ?_⟩
            · have hb : i < listed.size := by omega
              simp [Array.getD_eq_getD_getElem?, Array.getElem?_eq_getElem hb] at hl ⊢
              exact hl
            · simp only [Array.getElem?_eq_getElem hi, Option.map_some, Option.getD_some, Array.all_eq_true']
              intro e he
              cases hb : Region.binds .any e with
              | false => simp
              | true =>
                obtain ⟨a1, _, _⟩ := row_facts T (Array.getElem?_eq_getElem hi)
                have hm : e.on ∈ edges ops[i] := by
                  simp only [edges, List.mem_map, List.mem_filter]
                  exact ⟨e, ⟨Array.mem_toList_iff.2 he, hb⟩, rfl⟩
                have hlt : e.on < i := a1 _ (befEdges_mem.2 ⟨_, hm, .inl rfl⟩)
                simp only [Bool.not_true, Bool.false_or]
                exact ih _ hlt (by omega)
          rw [hr] at hmem
          cases hmem
    induction fuel with
    | zero =>
      intro listed σ hv a w hsz hI hX hc
      have hall : ∀ i, i < ops.size → listed.getD i false = true := fun i hi => by
        have hb : i < listed.size := by omega
        have hnil := List.eq_nil_of_length_eq_zero hc
        have : i ∉ (List.range ops.size).filter fun i => !listed.getD i true := by rw [hnil]; exact List.not_mem_nil
        simp [Array.getD_eq_getD_getElem?, Array.getElem?_eq_getElem hb, hi] at this ⊢
        exact this
      refine ⟨?_, hend listed σ hv a w hsz hI hall⟩
      cases hr : Region.ready .any ops listed with
      | nil => rfl
      | cons i r =>
        obtain ⟨o, h1, h2, _⟩ := hready listed i (by rw [hr]; simp)
        have hlt := (Array.getElem?_eq_some_iff.1 h1).1
        have hb : i < listed.size := by omega
        have := hall i hlt
        simp [Array.getD_eq_getD_getElem?, Array.getElem?_eq_getElem hb] at this h2
        rw [this] at h2
        cases h2
    | succ fuel ih =>
      intro listed σ hv a w hsz hI hX hc
      refine ⟨fun hr => hend listed σ hv a w hsz hI (hnone listed hsz hr), fun i hi => ?_⟩
      obtain ⟨o, h1, h2, h3⟩ := hready listed i hi
      have hlt := (Array.getElem?_eq_some_iff.1 h1).1
      have hb : i < listed.size := by omega
      have hX' : ∀ j, (listed.setIfInBounds i true).getD j false = true ↔ (listed.getD j false = true ∨ j = i) := fun j => by
        by_cases hj : i = j
        · subst hj
          simp [Array.getD_eq_getD_getElem?, Array.getElem?_setIfInBounds_self_of_lt hb]
        · simp only [Array.getD_eq_getD_getElem?, Array.getElem?_setIfInBounds_ne hj]
          exact ⟨.inl, fun h => h.resolve_right (Ne.symm hj)⟩
      have hXeq : (fun j => (listed.setIfInBounds i true).getD j false = true) = fun j => listed.getD j false = true ∨ j = i := funext fun j => propext (hX' j)
      refine inv_step ok T hX hI h1 (by simpa [Array.getD_eq_getD_getElem?, Array.getElem?_eq_getElem hb] using h2) h3 fun σ' hv' a' w' hI' => ?_
      refine ih (listed.setIfInBounds i true) σ' hv' a' w' (by simp [hsz]) (by rw [hXeq]; exact hI') (by
        rw [hXeq]
        intro j p hp hj e he
        rcases hj with hj | rfl
        · exact .inl (hX j p hp hj e he)
        · rw [h1] at hp
          injection hp with hp
          subst hp
          exact .inl (h3 e he)) ?_
      have hf : ((List.range ops.size).filter fun j => !(listed.setIfInBounds i true).getD j true) = ((List.range ops.size).filter fun j => !listed.getD j true).filter fun j => j != i := by
        rw [List.filter_filter]
        apply List.filter_congr
        intro j hj
        have hjl : j < listed.size := by have := List.mem_range.1 hj; omega
        by_cases hji : i = j
        · subst hji
          simp [Array.getD_eq_getD_getElem?, Array.getElem?_setIfInBounds_self_of_lt hb]
        · have : (j != i) = true := by simpa using Ne.symm hji
          simp only [Array.getD_eq_getD_getElem?, Array.getElem?_setIfInBounds_ne hji, this, Bool.true_and]
      rw [hf, ← List.Nodup.erase_eq_filter ((List.nodup_range).filter _), List.length_erase_of_mem]
      · omega
      · simp only [List.mem_filter, List.mem_range]
        exact ⟨hlt, by simp [h2]⟩
  have hcell : ∀ j, (Array.replicate ops.size false).getD j false = true ↔ False := fun j => by
    by_cases hj : j < ops.size
    · simp [Array.getD_eq_getD_getElem?, hj]
    · simp [Array.getD_eq_getD_getElem?, hj]
  have hXf : (fun j => (Array.replicate ops.size false).getD j false = true) = fun _ => False := funext fun j => propext (hcell j)
  refine key ops.size _ s0 hv a w.drew (by simp) ⟨h.drew, fun k => .inl ⟨fun j hj => ((hcell j).1 hj).elim, rfl⟩, fun t => .inl ⟨fun j hj => ((hcell j).1 hj).elim, rfl⟩, fun k hk _ => hf k hk, rfl, rfl⟩ (by
    rw [hXf]
    intro j o _ hj
    exact hj.elim) ?_
  rw [List.filter_eq_self.2]
  · simp
  · intro i hi
    have := List.mem_range.1 hi
    simp [Array.getD_eq_getD_getElem?, this]
end Go.Ev
end
section
set_option linter.unusedVariables false
set_option linter.unusedSimpArgs false
namespace Go.Ev
open Go.RowKit
variable {P : Program} {E : Env} {w0 : Base} {w : World} {S0 : Nat → Prop} {hv : Hv} {s : St} {a : Act}
theorem idxOf_spec : ∀ {k : Nat} {σ : List Nat} {i j : Nat}, idxOf k σ i = some j → ∃ d, j = i + d ∧ σ[d]? = some k
  | k, [], i, j, h => by cases h
  | k, q :: r, i, j, h => by
    simp only [idxOf] at h
    split at h
    · rename_i e
      injection h with h
      exact ⟨0, by omega, by simp [e]⟩
    · obtain ⟨d, h1, h2⟩ := idxOf_spec h
      exact ⟨d + 1, by omega, by simpa using h2⟩
theorem idxOf_get {k : Nat} {σ : List Nat} {j : Nat} (h : idxOf k σ 0 = some j) : σ[j]? = some k := by
  obtain ⟨d, h1, h2⟩ := idxOf_spec h
  rw [h1, Nat.zero_add]
  exact h2
def renHv (hv : Hv) (σ : List Nat) : Hv := ⟨fun i => (σ[i]?).bind hv, fun i => match σ[i]? with | some k => hv.ft k | none => []⟩
theorem renHv_ft {hv : Hv} {σ : List Nat} {k j : Nat} (h : σ[j]? = some k) : (renHv hv σ).ft j = hv.ft k := by simp only [renHv, h]
theorem renHv_idx {σ : List Nat} {k j : Nat} (h : idxOf k σ 0 = some j) : renHv hv σ j = hv k := by
  unfold renHv
  simp only [idxOf_get h]
  rfl
theorem idxsOf_all {σ : List Nat} : ∀ {l m : List Nat} {vs : List Value}, idxsOf σ l = some m → All2 (fun k v => hv k = some v) l vs → All2 (fun k v => renHv hv σ k = some v) m vs
  | [], m, vs, h, hr => by
    simp only [idxsOf, Option.some.injEq] at h
    subst h
    cases vs <;> first | trivial | exact hr.elim
  | k :: r, m, vs, h, hr => by
    simp only [idxsOf] at h
    split at h
    · rename_i i hi
      split at h
      · rename_i l hl
        injection h with h
        subst h
        cases vs with
        | nil => exact hr.elim
        | cons v vs => exact ⟨(renHv_idx hi).trans hr.1, idxsOf_all hl hr.2⟩
      · cases h
    · cases h
theorem AVRep.ren {S : Nat → Prop} (σ : List Nat) {av : AV} {v : Value} (h : AVRep w S hv av v) : AVRep w S (renHv hv σ) (av.ren σ) v := by
  cases av with
  | pure t x => exact h
  | nil => exact h
  | own k =>
    simp only [AV.ren]
    split
    · rename_i i hi
      exact ⟨(renHv_idx hi).trans h.1, h.2⟩
    · trivial
  | view k sz lo n =>
    simp only [AV.ren]
    split
    · rename_i i hi
      obtain ⟨A, len, cap, A', cap', h1, h2⟩ := h
      exact ⟨A, len, cap, A', cap', (renHv_idx hi).trans h1, h2⟩
    · trivial
  | ref k i sz off =>
    simp only [AV.ren]
    split
    · rename_i j hj
      rcases h with ⟨b, h1, h2⟩ | ⟨b, o, len, cap, h1, h2⟩
      · exact .inl ⟨b, (renHv_idx hj).trans h1, h2⟩
      · exact .inr ⟨b, o, len, cap, (renHv_idx hj).trans h1, h2⟩
    · trivial
  | cptr t x off => exact h
  | fn f caps =>
    simp only [AV.ren]
    split
    · rename_i l hl
      obtain ⟨vs, h1, h2⟩ := h
      exact ⟨vs, idxsOf_all hl h1, h2⟩
    · trivial
  | nilp => exact h
  | dead => trivial
theorem CRep.ren {S : Nat → Prop} (σ : List Nat) {av : AV} {v : Value} (h : CRep w S hv av v) : CRep w S (renHv hv σ) (av.ren σ) v := ⟨h.1.ren σ, h.2⟩
theorem All2.map_left {α β γ : Type} {R : α → β → Prop} {R' : γ → β → Prop} {f : α → γ} (h : ∀ a b, R a b → R' (f a) b) : ∀ {l : List α} {m : List β}, All2 R l m → All2 R' (l.map f) m
  | [], [], _ => trivial
  | _ :: _, _ :: _, r => ⟨h _ _ r.1, All2.map_left h r.2⟩
  | [], _ :: _, r => r.elim
  | _ :: _, [], r => r.elim
theorem SlotRep.ren {S : Nat → Prop} (σ : List Nat) {sl : Slot} {v : Value} (h : SlotRep w S hv sl v) : SlotRep w S (renHv hv σ) (sl.ren σ) v := by
  cases sl with
  | one a => exact AVRep.ren σ h
  | agg cs => obtain ⟨vs, e, hr⟩ := h; exact ⟨vs, e, hr.map_left (f := AV.ren σ) fun _ _ q => CRep.ren σ q⟩
  | tup cs => obtain ⟨vs, e, hr⟩ := h; exact ⟨vs, e, hr.map_left (f := AV.ren σ) fun _ _ q => AVRep.ren σ q⟩
theorem collect_nodup {st : Store} : ∀ (n : Nat) (todo acc : List Nat), acc.Nodup → (collect st n todo acc).Nodup
  | 0, _, _, h => h
  | n + 1, [], _, h => h
  | n + 1, k :: r, acc, h => by
    simp only [collect]
    split
    · exact collect_nodup n r acc h
    · rename_i hk
      have hk' : k ∉ acc := by simpa using hk
      have hn : (acc ++ [k]).Nodup := by
        rw [List.nodup_append]
        refine ⟨h, by simp, fun x hx y hy => ?_⟩
        rw [List.mem_singleton.1 hy]
        exact fun e => hk' (e ▸ hx)
      split
      · exact collect_nodup n r acc h
      · exact collect_nodup n _ _ hn
      · exact collect_nodup n _ _ hn
      · exact collect_nodup n _ _ hn
      · exact collect_nodup n _ _ hn
theorem get_renStore (st : Store) (σ : List Nat) : ∀ (l : List Nat) (i j : Nat), (renStore st σ l i).get j = if j < i then none else (l[j - i]?).bind fun k => (st.get k).map (Ob.ren σ)
  | [], i, j => by simp [renStore, Store.get]
  | k :: r, i, j => by
    simp only [renStore]
    cases hk : st.get k with
    | none =>
      simp only
      rw [get_renStore st σ r (i + 1) j]
      by_cases h1 : j < i
      · rw [if_pos h1, if_pos (by omega)]
      · rw [if_neg h1]
        by_cases h2 : j = i
        · subst h2
          rw [if_pos (by omega)]
          simp [hk]
        · rw [if_neg (by omega), show j - i = (j - (i + 1)) + 1 by omega, List.getElem?_cons_succ]
    | some o =>
      simp only [Store.get]
      by_cases h2 : i = j
      · subst h2
        simp [hk]
      · rw [if_neg h2, get_renStore st σ r (i + 1) j]
        by_cases h1 : j < i
        · rw [if_pos h1, if_pos (by omega)]
        · rw [if_neg h1, if_neg (by omega), show j - i = (j - (i + 1)) + 1 by omega, List.getElem?_cons_succ]
theorem blk_ren (σ : List Nat) (o : Ob) (v : Value) : blk (o.ren σ) v = blk o v := by
  cases o with
  | cells cs => cases v with
    | pointer a => cases a <;> rfl
    | _ => rfl
  | alias k i =>
    simp only [Ob.ren]
    split <;> rfl
  | _ => rfl
theorem bk_ren (σ : List Nat) (F : List Nat) (o : Ob) (v : Value) (b : Nat) : Bk F (o.ren σ) v b ↔ Bk F o v b := by
  have := blk_ren σ o v
  cases o with
  | deep d x => exact Iff.rfl
  | alias k i =>
    simp only [Ob.ren]
    split <;> exact Iff.rfl
  | cells cs =>
    show blk _ v = some b ↔ blk _ v = some b
    rw [← this]
  | _ => exact Iff.rfl
theorem ren_deep {σ : List Nat} {o : Ob} {d : DT} {x : d.den} (h : Ob.deep d x = o.ren σ) : o = .deep d x := by
  cases o with
  | deep d' x' => exact h.symm
  | alias k i => simp only [Ob.ren] at h; split at h <;> cases h
  | _ => cases h
theorem ren_alias {σ : List Nat} {o : Ob} {j i : Nat} (h : Ob.alias j i = o.ren σ) : ∃ k, o = .alias k i ∧ idxOf k σ 0 = some j := by
  cases o with
  | alias k i' =>
    simp only [Ob.ren] at h
    split at h
    · rename_i j' hj
      injection h with h1 h2
      subst h1 h2
      exact ⟨k, rfl, hj⟩
    · cases h
  | _ => cases h
theorem keep_rep {S : Nat → Prop} (live σ : List Nat) : ∀ (l : List Slot) (vs : List Value) (i : Nat), All2 (SlotRep w S hv) l vs → All2 (SlotRep w S (renHv hv σ)) (keepSlots live σ l i) vs
  | [], [], _, _ => trivial
  | sl :: r, v :: vs, i, h => by
    refine ⟨?_, keep_rep live σ r vs (i + 1) h.2⟩
    split
    · exact h.1.ren σ
    · exact trivial
  | [], _ :: _, _, h => h.elim
  | _ :: _, [], _, h => h.elim
theorem gc_sound (h : Rel w0 S0 hv s a w) (live : List Nat) : ∃ hv', Rel w0 S0 hv' (gc live s) a w ∧ ∀ j, (gc live s).next ≤ j → hv' j = none := by
  obtain ⟨σ, hσ⟩ : ∃ σ, collect s.st 1000 (ghostKeys s.st ++ liveKeys live s.tmps 0) [] = σ := ⟨_, rfl⟩
  have hnd : σ.Nodup := hσ ▸ collect_nodup _ _ _ List.nodup_nil
  have hgc : gc live s = { tmps := keepSlots live σ s.tmps 0, st := renStore s.st σ σ 0, next := σ.length } := by unfold gc; simp only [hσ]
  rw [hgc]
  have hget : ∀ j o, (renStore s.st σ σ 0).get j = some o → ∃ k ob, σ[j]? = some k ∧ s.st.get k = some ob ∧ o = ob.ren σ := fun j o hj => by
    rw [get_renStore, if_neg (by omega), Nat.sub_zero] at hj
    obtain ⟨k, h1, h2⟩ := Option.bind_eq_some_iff.1 hj
    obtain ⟨ob, h3, h4⟩ := Option.map_eq_some_iff.1 h2
    exact ⟨k, ob, h1, h3, h4.symm⟩
  have hown : ∀ b, Own (renHv hv σ) (renStore s.st σ σ 0) b → Own hv s.st b := by
    rintro b ⟨j, o, v, h1, h2, h3⟩
    obtain ⟨k, ob, g1, g2, rfl⟩ := hget j o h1
    rw [renHv_ft g1, bk_ren] at h3
    unfold renHv at h2
    simp only [g1] at h2
    exact ⟨k, ob, v, g2, h2, h3⟩
  have hs : StepOk w (All S0 hv s.st) w (All S0 (renHv hv σ) (renStore s.st σ σ 0)) := (StepOk.refl _ _).sub fun b hb => hb.imp id (hown b)
  have hle : (renHv hv σ).le (renHv hv σ) := Hv.le_refl _
  refine ⟨renHv hv σ, ⟨⟨fun j o hj => ?_, fun j o v j' o' v' b h1 h2 h3 h4 h5 h6 => ?_, fun b hb => h.st.out b (hown b hb), fun j d x v hj hv1 => ?_, fun j t i hj => ?_⟩, ?_, fun b hb => h.base b (hown b hb), h.s0, h.keep, h.dfr, (fun j sl hj => by
    obtain ⟨k, ob, g1, g2, g3⟩ := hget j _ hj
    unfold renHv
    simp only [g1]
    cases ob with
    | ghost s2 => exact h.gh k _ g2
    | alias t i => simp only [Ob.ren] at g3; split at g3 <;> cases g3
    | cells cs => cases g3
    | row e xs => cases g3
    | frow e xs => cases g3
    | map kt vt l c => cases g3
    | deep d x => cases g3
    | void => cases g3
    | iter _ _ _ _ _ => cases g3), h.stp.trans hs, h.kp⟩, fun j hj => ?_⟩
  · obtain ⟨k, ob, g1, g2, rfl⟩ := hget j o hj
    obtain ⟨v, hv1, hob⟩ := h.st.objs k ob g2
    refine ⟨v, by unfold renHv; simp only [g1]; exact hv1, ?_⟩
    cases ob with
    | cells cs =>
      obtain ⟨b, vs, ty, rfl, hw, hr⟩ := hob
      exact ⟨b, vs, ty, rfl, hw, (hr.map_left (f := AV.ren σ) fun _ _ q => CRep.ren σ q).mono fun _ _ r => CRep.step hs hle r⟩
    | row e xs =>
      rcases hob with q | ⟨b, o, cap, vs, ty, rfl, q1, q2, q3, q4, q5⟩
      · exact .inl q
      · exact .inr ⟨b, o, cap, vs, ty, rfl, q1, q2, q3, q4, fun i x hx => by
          obtain ⟨es, p1, p2⟩ := q5 i x hx
          exact ⟨es, p1.step hs, p2⟩⟩
    | frow e xs => exact Rep.step (t := .sl e) hs hob
    | ghost sl =>
      obtain ⟨vs, e, hr⟩ := hob
      exact ⟨vs, e, (hr.map_left (f := Slot.ren σ) fun _ _ q => SlotRep.ren σ q).mono fun _ _ r => SlotRep.step hs hle r⟩
    | map kt vt l c =>
      obtain ⟨b, es, rfl, hw, hr⟩ := hob
      exact ⟨b, es, rfl, hw, hr.step hs⟩
    | deep d x => exact hob
    | alias t i => simp only [Ob.ren]; split <;> exact hob
    | void => exact hob
    | iter kt vt l c seen =>
      obtain ⟨b, m, sn, rfl, hw, h1, h2⟩ := hob
      exact ⟨b, m, sn, rfl, hw, h1, h2.step hs⟩
  · obtain ⟨k, ob, g1, g2, rfl⟩ := hget j o h1
    obtain ⟨k', ob', g3, g4, rfl⟩ := hget j' o' h4
    rw [renHv_ft g1, bk_ren] at h3
    rw [renHv_ft g3, bk_ren] at h6
    unfold renHv at h2 h5
    simp only [g1] at h2
    simp only [g3] at h5
    have hk := h.st.inj _ _ _ _ _ _ _ g2 h2 h3 g4 h5 h6
    subst hk
    have l1 := (List.getElem?_eq_some_iff.1 g1)
    have l2 := (List.getElem?_eq_some_iff.1 g3)
    obtain ⟨p1, q1⟩ := l1
    obtain ⟨p2, q2⟩ := l2
    rcases Nat.lt_trichotomy j j' with hlt | heq | hgt
    · exact absurd (q1.trans q2.symm) (List.pairwise_iff_getElem.1 hnd j j' p1 p2 hlt)
    · exact heq
    · exact absurd (q2.trans q1.symm) (List.pairwise_iff_getElem.1 hnd j' j p2 p1 hgt)
  · obtain ⟨k, ob, g1, g2, g3⟩ := hget j _ hj
    have g3 := ren_deep g3
    subst g3
    rw [renHv_ft g1]
    unfold renHv at hv1
    simp only [g1] at hv1
    obtain ⟨p1, p2⟩ := h.st.deep k d x v g2 hv1
    exact ⟨p1.step hs fun _ _ => rfl, p2⟩
  · obtain ⟨k, ob, g1, g2, g3⟩ := hget j _ hj
    obtain ⟨t', rfl, ht⟩ := ren_alias g3
    obtain ⟨d, xs, v, b, o, len, cap, q1, q2, q3, q4, q5, q6, q7, q8⟩ := h.st.ali k t' i g2
    have hg := idxOf_get ht
    refine ⟨d, xs, v, b, o, len, cap, ?_, q2, q3, ?_, q5, ?_, q7, ?_⟩
    · rw [get_renStore, if_neg (by omega), Nat.sub_zero, hg]
      simp only [Option.bind_some, q1, Option.map_some]
      rfl
    · unfold renHv; simp only [g1]; exact q4
    · unfold renHv; simp only [hg]; exact q6
    · rw [renHv_ft hg]; exact q8
  · exact (keep_rep live σ _ _ 0 h.tmps).mono fun _ _ r => r.step hs hle
  · unfold renHv
    simp only [List.getElem?_eq_none hj]
    rfl
theorem tmps_set_rep {S : Nat → Prop} {l : List Slot} {vs : List Value} (h : All2 (SlotRep w S hv) l vs) {i : Nat} {sl sl' : Slot} (hi : l[i]? = some sl) (hr : ∀ v, SlotRep w S hv sl v → SlotRep w S hv sl' v) : All2 (SlotRep w S hv) (l.set i sl') vs := by
  obtain ⟨v, h1, h2⟩ := h.get i sl hi
  have := h.set (hr v h2) i
  have hs : vs.set i v = vs := by
    apply List.ext_getElem?
    intro j
    by_cases hj : i = j
    · subst hj
      rw [List.getElem?_set_self (List.getElem?_eq_some_iff.1 h1).1, h1]
    · rw [List.getElem?_set_ne hj]
  rwa [hs] at this
theorem all2_set_keep {α β : Type} {R : α → β → Prop} {a a' : α} (hr : ∀ v, R a v → R a' v) : ∀ {l : List α} {vs : List β} {i : Nat}, All2 R l vs → l[i]? = some a → All2 R (l.set i a') vs
  | [], [], _, _, h => by simp at h
  | [], _ :: _, _, h, _ => h.elim
  | _ :: _, [], _, h, _ => h.elim
  | x :: l, v :: vs, 0, h, hi => by
    simp at hi
    subst hi
    exact ⟨hr _ h.1, h.2⟩
  | x :: l, v :: vs, i + 1, h, hi => ⟨h.1, all2_set_keep hr h.2 (by simpa using hi)⟩
theorem cellNil_spec {s : St} {i k c : Nat} {cs : List AV} (h : cellNil s i = some (k, c, cs)) : s.st.get k = some (.cells cs) ∧ cs[c]? = some .nil := by
  unfold cellNil at h
  cases hb : Nat.ble 100000 i with
  | false => rw [hb] at h; cases h
  | true =>
    rw [hb] at h
    simp only [cond_true] at h
    split at h
    · split at h
      · split at h
        · simp only [Option.some.injEq, Prod.mk.injEq] at h
          obtain ⟨rfl, rfl, rfl⟩ := h
          exact ⟨by assumption, by assumption⟩
        · cases h
      · cases h
    · cases h
theorem ownify_sound : ∀ (l : List (Nat × Option Ty)) (s : St) (hv : Hv), Rel w0 S0 hv s a w → (∀ j, s.next ≤ j → hv j = none) → ∃ hv', Rel w0 S0 hv' (ownify s l) a w ∧ ∀ j, (ownify s l).next ≤ j → hv' j = none
  | [], s, hv, h, hf => ⟨hv, h, hf⟩
  | (i, none) :: r, s, hv, h, hf => ownify_sound r s hv h hf
  | (i, some e) :: r, s, hv, h, hf => by
    simp only [ownify]
    split
    · rename_i hi
      obtain ⟨r1, r2, r3, r4⟩ := h.st.lay (hf s.next (Nat.le_refl _)) s.next (.slice none 0 0) (.row e []) rfl (fun p hp => by rw [h.st.fresh (hf s.next (Nat.le_refl _))] at hp; cases hp) (w' := w) (fun b hb => Nat.lt_of_lt_of_le (h.s0 b hb) h.keep.size) (fun b hb => by simp [blk] at hb) (fun _ _ _ => rfl) (fun _ => .inl ⟨none, rfl, rfl⟩)
      rw [erase_none (h.st.fresh (hf s.next (Nat.le_refl _)))] at r1 r2 r4
      refine ownify_sound r _ _ ⟨r1, ?_, fun b hb => ?_, h.s0, h.keep, h.dfr, (by
        have := Gh.put h.gh s.next s.next (.slice none 0 0) (ob := .row e []) rfl
        rwa [erase_none (h.st.fresh (hf s.next (Nat.le_refl _)))] at this), h.stp.trans r2, h.kp⟩ fun j hj => ?_
      · refine tmps_set_rep (h.tmps.mono fun _ _ q => q.step r2 r3) hi fun v hv' => ?_
        have hv' : v = _ := hv'
        subst hv'
        exact ⟨Hv.put_same, trivial⟩
      · rcases r4 b hb with h' | h'
        · exact h.base b h'
        · exact Nat.le_trans h.bn h'
      · rw [Hv.put_ne (by simp only at hj; omega)]
        exact hf j (by simp only at hj; omega)
    · rename_i k sz lo n hi
      split
      · rename_i hsz
        split
        · rename_i xs hxs
          have hg := wrow_get hxs
          obtain ⟨v, h1, h2⟩ := h.tmps.get i _ hi
          obtain ⟨A, len, cap, A', cap', hk, q1, q2, q3, q4, q5, rfl⟩ := h2
          subst hsz
          obtain ⟨vk, hk1, hob⟩ := h.st.objs _ _ hg
          rw [hk1] at hk
          injection hk with hk
          subst hk
          have hlen : len = xs.length := by
            rcases hob with ⟨B, h', rfl⟩ | ⟨b, off, cap1, vs, ty, h', _⟩
            · injection h' with _ h' _
            · injection h' with _ h' _
          subst hlen
          have hzl : ((xs.drop lo).take n).length = n := by simp; omega
          have hblk : ∀ b, blk (.row e ((xs.drop lo).take n)) (.slice A' n cap') = some b → ∃ off, A' = some ⟨b, off, none⟩ ∧ 0 < cap' ∧ blk (.row e xs) (.slice A xs.length cap) = some b := fun b hb => by
            have hc : 0 < cap' := by
              rcases Nat.eq_zero_or_pos cap' with h0 | h0
              · subst h0; cases A' <;> simp [blk] at hb
              · exact h0
            rcases hob with ⟨B, h', rfl⟩ | ⟨b', off, cap1, vs, ty, h', g1, _⟩
            · injection h' with _ _ h'
              omega
            · injection h' with hA _ hcc
              subst hA hcc
              have := q5 hc b' off rfl
              subst this
              simp only [blk, hc, if_true, Option.some.injEq] at hb
              subst hb
              exact ⟨_, rfl, hc, by simp [blk, g1]⟩
          obtain ⟨r1, r2, r3, r4⟩ := h.st.lay (hf s.next (Nat.le_refl _)) k (.slice A' n cap') (.row e ((xs.drop lo).take n)) rfl (fun p hp => by rw [hg] at hp; injection hp with hp; subst hp; rfl) (w' := w) (fun b hb => Nat.lt_of_lt_of_le (h.s0 b hb) h.keep.size)
            (fun b hb => by
              obtain ⟨_, _, _, h3⟩ := hblk b hb
              exact .inr ⟨_, _, hg, hk1, h3⟩) (fun _ _ _ => rfl) (fun hst => by
              rcases Nat.eq_zero_or_pos cap' with h0 | h0
              · refine .inl ⟨A', ?_, ?_⟩
                · rw [h0, show n = 0 by omega]
                · exact List.eq_nil_of_length_eq_zero (by rw [hzl]; omega)
              · rcases hob with ⟨B, h', rfl⟩ | ⟨b', off, cap1, vs, ty, h', g1, g2, g3, g4, g5⟩
                · injection h' with _ _ h'
                  omega
                · injection h' with hA _ hcc
                  subst hA hcc
                  have := q5 h0 b' off rfl
                  subst this
                  refine .inr ⟨b', off + lo * e.size, cap', vs, ty, by rw [hzl], h0, by rw [hzl]; omega, g3, ?_, ?_⟩
                  · have : lo * e.size + cap' * e.size = cap * e.size := by rw [← Nat.add_mul]; congr 1; omega
                    omega
                  · intro j z hz
                    have hj : j < n := by
                      have := (List.getElem?_eq_some_iff.1 hz).1
                      omega
                    rw [List.getElem?_take, if_pos hj, List.getElem?_drop] at hz
                    obtain ⟨es, p1, p2⟩ := g5 _ z hz
                    refine ⟨es, p1.step hst, fun c d hd => ?_⟩
                    have := p2 c d hd
                    rw [Nat.add_mul] at this
                    rw [← this]
                    congr 1
                    omega)
          refine ownify_sound r _ _ ⟨r1, ?_, fun b hb => ?_, h.s0, h.keep, h.dfr, Gh.put h.gh k s.next _ rfl, h.stp.trans r2, h.kp⟩ fun j hj => ?_
          · have := (h.tmps.mono fun _ _ q => SlotRep.step r2 r3 q).set (show SlotRep w _ (hv.put s.next (.slice A' n cap')) (.one (.own s.next)) (.slice A' n cap') from ⟨Hv.put_same, trivial⟩) i
            have hs : a.tmps.toList.set i (.slice A' n cap') = a.tmps.toList := by
              apply List.ext_getElem?
              intro j
              by_cases hj : i = j
              · subst hj
                rw [List.getElem?_set_self (List.getElem?_eq_some_iff.1 h1).1, h1]
              · rw [List.getElem?_set_ne hj]
            rwa [hs] at this
          · rcases r4 b hb with h' | h'
            · exact h.base b h'
            · exact Nat.le_trans h.bn h'
          · rw [Hv.put_ne (by simp only at hj; omega)]
            exact hf j (by simp only at hj; omega)
        · exact ownify_sound r s hv h hf
      · exact ownify_sound r s hv h hf
    · split
      · rename_i k c cs hcn
        obtain ⟨hg, hc⟩ := cellNil_spec hcn
        obtain ⟨r1, r2, r3, r4⟩ := h.st.lay (hf s.next (Nat.le_refl _)) s.next (.slice none 0 0) (.row e []) rfl (fun p hp => by rw [h.st.fresh (hf s.next (Nat.le_refl _))] at hp; cases hp) (w' := w) (fun b hb => Nat.lt_of_lt_of_le (h.s0 b hb) h.keep.size) (fun b hb => by simp [blk] at hb) (fun _ _ _ => rfl) (fun _ => .inl ⟨none, rfl, rfl⟩)
        rw [erase_none (h.st.fresh (hf s.next (Nat.le_refl _)))] at r1 r2 r4
        have hgh := Gh.put h.gh s.next s.next (.slice none 0 0) (ob := .row e []) rfl
        rw [erase_none (h.st.fresh (hf s.next (Nat.le_refl _)))] at hgh
        obtain ⟨v, hv1, hob⟩ := h.st.objs _ _ hg
        have hne : k ≠ s.next := fun e => by
          rw [e, hf s.next (Nat.le_refl _)] at hv1
          cases hv1
        have hg1 : (s.st.put s.next (.row e [])).get k = some (.cells cs) := by rw [get_put, if_neg hne]; exact hg
        have hv2 : (hv.put s.next (.slice none 0 0)) k = some v := by rw [Hv.put_ne hne]; exact hv1
        obtain ⟨v', hv3, hob1⟩ := r1.objs _ _ hg1
        rw [hv2] at hv3
        injection hv3 with hv3
        subst hv3
        obtain ⟨b, vs, ty, rfl, hw, hcs⟩ := hob1
        obtain ⟨q1, q2, q3⟩ := r1.write (w' := w) (o' := .cells (cs.set c (.own s.next))) hg1 rfl rfl hv2 rfl rfl (fun _ _ => rfl) fun hst => by
          refine ⟨b, vs, ty, rfl, hw, all2_set_keep (fun v hv' => ?_) (hcs.mono fun _ _ q => ⟨q.1.step hst (Hv.le_refl _), q.2⟩) hc⟩
          have : v = _ := hv'.1
          subst this
          exact ⟨⟨Hv.put_same, trivial⟩, trivial⟩
        refine ownify_sound r _ _ ⟨q1, h.tmps.mono fun _ _ q => (SlotRep.step r2 r3 q).step q2 (Hv.le_refl _), fun b hb => ?_, h.s0, h.keep, h.dfr, Gh.set hgh rfl, (h.stp.trans r2).trans q2, h.kp⟩ fun j hj => ?_
        · rcases r4 b (q3 b hb) with h' | h'
          · exact h.base b h'
          · exact Nat.le_trans h.bn h'
        · rw [Hv.put_ne (by simp only at hj; omega)]
          exact hf j (by simp only at hj; omega)
      · exact ownify_sound r s hv h hf
theorem canon_sound (h : Rel w0 S0 hv s a w) (hf : ∀ j, s.next ≤ j → hv j = none) (c : Code) : ∃ hv', Rel w0 S0 hv' (canon E c s) a w ∧ ∀ j, (canon E c s).next ≤ j → hv' j = none := by
  unfold canon
  split
  · exact ⟨hv, h, hf⟩
  · split
    · exact ⟨hv, h, hf⟩
    · obtain ⟨hv1, h1, _⟩ := ownify_sound _ s hv h hf
      exact gc_sound h1 _
theorem canonB_sound (h : Rel w0 S0 hv s a w) (hf : ∀ j, s.next ≤ j → hv j = none) (c : Code) : ∃ hv', Rel w0 S0 hv' (canonB E c s) a w ∧ ∀ j, (canonB E c s).next ≤ j → hv' j = none := by
  unfold canonB
  split
  · exact ⟨hv, h, hf⟩
  · split
    · exact ⟨hv, h, hf⟩
    · obtain ⟨hv1, h1, _⟩ := ownify_sound _ s hv h hf
      exact gc_sound h1 _
end Go.Ev
end
