/- append. -/
import Derived.Test.YtdchhhedpipeiaaEvI
set_option linter.unusedVariables false
set_option linter.unusedSimpArgs false
namespace Go.Ev
open Go.RowKit

variable {P : Program} {E : Env} {w0 : Base} {w : World} {S0 : Nat → Prop} {hv : Hv} {s : St} {a : Act} {key : Nat} {o : Oper}

theorem growBy_le (n : Nat) : ∀ (r c : Nat), Builtin.growBy n r c ≤ max c (n + (n + 768) / 4)
  | 0, c => by simp [Builtin.growBy]; omega
  | r + 1, c => by
    simp only [Builtin.growBy]
    split
    · omega
    · have := growBy_le n r (c + (c + 768) / 4)
      omega
theorem nextslicecap_le {n c : Nat} (h : c < n) : Builtin.nextslicecap n c ≤ 2 * n := by
  unfold Builtin.nextslicecap
  split
  · omega
  · split
    · omega
    · have := growBy_le n 4 c
      omega

/-- The elements of a slice stand at an address. -/
def SlIn (w : World) (T : Nat → Prop) (e : Ty) (ys : List e.den) (A : Option Addr) : Prop :=
  ∀ (i : Nat) (x : e.den), ys[i]? = some x → ∃ b o es, A = some ⟨b, o, none⟩ ∧ Rep w T e x es ∧ ∀ (j : Nat) (c : Value), es[j]? = some c → w.cell? ⟨b, o + i * e.size + j, none⟩ = some c
/-- The cells of a slice that is read. -/
theorem slIn_flat {T : Nat → Prop} {e : Ty} {ys : List e.den} {A : Option Addr} {cap : Nat} (H : SlIn w T e ys A) :
    ∃ cs : List Value, cs.length = ys.length * e.size ∧ (∀ (i : Nat) (y : e.den), ys[i]? = some y → ∃ es, Rep w T e y es ∧ ∀ (j : Nat) (c : Value), es[j]? = some c → cs[i * e.size + j]? = some c) ∧ (∀ c ∈ cs, isCell c) ∧
      ∀ w' : World, w'.heap = w.heap → (Builtin.firstCells e.size ys.length (.slice A ys.length cap)).run P w' = .ok cs.toArray w' := by
  by_cases h0 : List.length (α := e.den) ys * e.size = 0
  · refine ⟨[], by simp [h0], fun i y hy => ?_, (fun c hc => by cases hc), ?_⟩
    · obtain ⟨b, o, es, hA, hr, hcell⟩ := H i y hy
      refine ⟨es, hr, fun j c hj => ?_⟩
      have hi : i < ys.length := (List.getElem?_eq_some_iff.1 hy).1
      have hjl := (List.getElem?_eq_some_iff.1 hj).1
      have hl := hr.length
      have hs : e.size = 0 := by
        rcases Nat.mul_eq_zero.1 h0 with h' | h'
        · exact absurd hi (by show ¬ i < List.length (α := e.den) ys; omega)
        · exact h'
      omega
    · intro w' _
      cases A with
      | none => simp [Builtin.firstCells]
      | some ad =>
        simp only [Builtin.firstCells, h0]
        rfl
  · have hn : 0 < List.length (α := e.den) ys := Nat.pos_of_ne_zero fun hz => h0 (by simp [hz])
    have hsz : 0 < e.size := Nat.pos_of_ne_zero fun hz => h0 (by simp [hz])
    obtain ⟨b, o, es0, rfl, _⟩ := H 0 _ (List.getElem?_eq_getElem hn)
    let cs : List Value := (List.range (List.length (α := e.den) ys * e.size)).map fun j => (w.cell? ⟨b, o + j, none⟩).getD undef
    have hcs : ∀ (i : Nat) (y : e.den), (show List e.den from ys)[i]? = some y → ∃ es, Rep w T e y es ∧ ∀ (j : Nat) (c : Value), es[j]? = some c → cs[i * e.size + j]? = some c ∧ w.cell? ⟨b, o + (i * e.size + j), none⟩ = some c := by
      intro i y hy
      obtain ⟨b', o', es, hA, hr, hcell⟩ := H i y hy
      injection hA with hA
      injection hA with hA hA'
      subst hA hA'
      have hi : i < List.length (α := e.den) ys := (List.getElem?_eq_some_iff.1 hy).1
      refine ⟨es, hr, fun j c hj => ?_⟩
      have hjl := (List.getElem?_eq_some_iff.1 hj).1
      have hl := hr.length
      have hmul : (i + 1) * e.size ≤ List.length (α := e.den) ys * e.size := Nat.mul_le_mul_right _ hi
      rw [Nat.succ_mul] at hmul
      have hc' := hcell j c hj
      rw [Nat.add_assoc] at hc'
      refine ⟨?_, hc'⟩
      simp only [cs, List.getElem?_map]
      rw [List.getElem?_range (by omega)]
      simp [hc']
    have hall : ∀ j, j < List.length (α := e.den) ys * e.size → ∃ c, cs[j]? = some c ∧ w.cell? ⟨b, o + j, none⟩ = some c ∧ isCell c := by
      intro j hj
      have hi : j / e.size < List.length (α := e.den) ys := Nat.div_lt_of_lt_mul (by rw [Nat.mul_comm]; exact hj)
      obtain ⟨es, hr, hce⟩ := hcs (j / e.size) _ (List.getElem?_eq_getElem hi)
      have hl := hr.length
      have hm := Nat.mod_lt j hsz
      have hje : j % e.size < es.length := by omega
      have := hce (j % e.size) _ (List.getElem?_eq_getElem hje)
      rw [show j / e.size * e.size + j % e.size = j by rw [Nat.mul_comm]; exact Nat.div_add_mod _ _] at this
      exact ⟨_, this.1, this.2, hr.isCell _ (List.getElem_mem hje)⟩
    have hlen : cs.length = List.length (α := e.den) ys * e.size := by simp [cs]
    refine ⟨cs, hlen, fun i y hy => ?_, fun c hc => ?_, ?_⟩
    · obtain ⟨es, hr, hce⟩ := hcs i y hy
      exact ⟨es, hr, fun j c hj => (hce j c hj).1⟩
    · obtain ⟨j, hj⟩ := List.mem_iff_getElem?.1 hc
      have hjl := (List.getElem?_eq_some_iff.1 hj).1
      obtain ⟨c', h1, _, h2⟩ := hall j (by omega)
      rw [hj] at h1
      injection h1 with h1
      exact h1 ▸ h2
    · intro w' hw'
      simp only [Builtin.firstCells]
      have := run_loadCells_list (P := P) (w := w') ⟨b, o, none⟩ cs fun j v hj => by
        have hsame : w'.cell? ⟨b, o + j, none⟩ = w.cell? ⟨b, o + j, none⟩ := by simp [World.cell?, hw']
        have hjl := (List.getElem?_eq_some_iff.1 hj).1
        obtain ⟨c', h1, h2, _⟩ := hall j (by omega)
        rw [hj] at h1
        injection h1 with h1
        rw [add_none, h1, hsame]
        exact h2
      rw [hlen] at this
      exact this
theorem rep_flat {T : Nat → Prop} {e : Ty} {ys : List e.den} {A : Option Addr} {n cap : Nat} (h : Rep w T (.sl e) ys [.slice A n cap]) :
    ∃ cs : List Value, ys.length = n ∧ cs.length = n * e.size ∧ (∀ (i : Nat) (y : e.den), ys[i]? = some y → ∃ es, Rep w T e y es ∧ ∀ (j : Nat) (c : Value), es[j]? = some c → cs[i * e.size + j]? = some c) ∧ (∀ c ∈ cs, isCell c) ∧
      ∀ w' : World, w'.heap = w.heap → (Builtin.firstCells e.size n (.slice A n cap)).run P w' = .ok cs.toArray w' := by
  obtain ⟨B, cap', he, hc, H⟩ := h
  simp only [List.cons.injEq, and_true, Value.slice.injEq] at he
  obtain ⟨rfl, rfl, rfl⟩ := he
  obtain ⟨cs, h1, h2, h3, h4⟩ := slIn_flat (P := P) (cap := cap) (e := e) (ys := ys) (T := T) (w := w) (A := A) fun i x hx => by
    obtain ⟨b, o, es, hA, hr, hcell⟩ := H i x hx
    exact ⟨b, o, es, hA, hr, fun j c hj => (hcell j c hj).2⟩
  exact ⟨cs, rfl, h1, h2, h3, h4⟩

theorem append_core (ok : EnvOk w0.tr P E) (h : Rel w0 S0 hv s a w) {st1 : Store} (hgh : Gh w0 hv st1) (h1 : StRel w S0 hv st1) (hsub : ∀ b, Own hv st1 b → Own hv s.st b) (hk : hv key = none) {T T' : TypeId} {e e' : Ty} (hT : E.ty T = some (.sl e)) (hT' : E.ty T' = some (.sl e')) {by_ : Nat} (hby : E.bytes T = some by_)
    (k0 : Nat) {A : Option Addr} {cap : Nat} {zs ys : List e.den} (hmc : zs.length ≤ cap)
    (hsrc : cap = 0 ∨ ∃ b off vs ty ob v0, A = some ⟨b, off, none⟩ ∧ w.heap[b]? = some (.cells vs ty (0, 0)) ∧ off + cap * e.size ≤ vs.size ∧ RowIn w (All S0 hv st1) e zs vs off ∧ st1.get k0 = some ob ∧ hv k0 = some v0 ∧ blk ob v0 = some b)
    {vy : Value} {cs : List Value} (hlen : (Builtin.lenOf vy).run P w = .ok ys.length w) (hcl : cs.length = ys.length * e.size) (hcs : ∀ (i : Nat) (y : e.den), ys[i]? = some y → ∃ es, Rep w (All S0 hv st1) e y es ∧ ∀ (j : Nat) (c : Value), es[j]? = some c → cs[i * e.size + j]? = some c)
    (hcell : ∀ c ∈ cs, isCell c) (hfirst : ∀ w' : World, w'.heap = w.heap → (Builtin.firstCells e.size ys.length vy).run P w' = .ok cs.toArray w') (hmax : (zs.length + ys.length) * by_ ≤ maxBytes) :
    ∃ hv' val w', (∀ t, (Builtin.append_ #[T, T'] t #[.slice A zs.length cap, vy]).run P w = .ok val w') ∧ Post w0 S0 hv s.st w key (.one (.own key)) ((st1.erase k0).put key (.row e (zs ++ ys))) hv' val w' := by
  obtain ⟨_, te, hu, hte, z, hz, hzr⟩ := ok.ty _ _ hT
  obtain ⟨te', hu', _⟩ := (ok.ty _ _ hT').elem
  obtain ⟨hb1, hb0⟩ := ok.bytes _ _ hby _ hu
  obtain ⟨info, hi, hib⟩ := Option.map_eq_some_iff.1 hb1
  have hsz := hte.size
  have hzl : z.cells.size = e.size := by have := (hzr w (fun _ => False)).length; simpa using this
  have hnew : (zs ++ ys).length = zs.length + ys.length := List.length_append
  by_cases hfit : zs.length + ys.length ≤ cap
  · -- in place
    rcases Nat.eq_zero_or_pos cap with h0 | hcpos
    · subst h0
      have hz0 : zs = [] := List.eq_nil_of_length_eq_zero (by omega)
      have hy0 : ys = [] := List.eq_nil_of_length_eq_zero (by omega)
      subst hz0 hy0
      have hc0 : cs = [] := List.eq_nil_of_length_eq_zero (by simpa using hcl)
      subst hc0
      refine ⟨_, .slice A 0 0, w, fun t => ?_, Post.lay h hgh h1 hsub hk k0 (.slice A 0 0) (.row e ([] ++ [])) rfl (fun b hb => ?_) (fun _ _ _ => rfl) h.keep (fun _ => .inl ⟨A, rfl, rfl⟩) ⟨Hv.put_same, trivial⟩⟩
      · have hf := hfirst w rfl
        simp only [List.length_nil] at hlen hf
        cases A with
        | none => simp [Builtin.append_, run_underlying hu, run_underlying hu', run_sizeOf hsz, hlen, hf]
        | some ad => simp [Builtin.append_, run_underlying hu, run_underlying hu', run_sizeOf hsz, hlen, hf, storeCells]
      · cases A <;> simp [blk] at hb
    · obtain ⟨b, off, vs, ty, ob, v0, rfl, hw, hvs, hin, hg, hk0, hblk⟩ := hsrc.resolve_left (by omega)
      have hmul : (zs.length + ys.length) * e.size ≤ cap * e.size := Nat.mul_le_mul_right _ hfit
      rw [Nat.add_mul] at hmul
      have hroom : off + zs.length * e.size + cs.length ≤ vs.size := by omega
      have hst := storeCells_run P b ty (off + zs.length * e.size) cs vs 0 w hw hcell (by omega)
      refine ⟨_, .slice (some ⟨b, off, none⟩) (zs.length + ys.length) cap, putBlock w b (writeAt vs (off + zs.length * e.size) cs) ty, fun t => ?_,
        Post.lay h hgh h1 hsub hk k0 (.slice (some ⟨b, off, none⟩) (zs.length + ys.length) cap) (.row e (zs ++ ys)) rfl (fun c hc => ?_) (fun c hlt hne => putBlock_other fun e' => ?_) (below_putBlock h.keep (h.base b (hsub b ⟨k0, ob, v0, hg, hk0, hblk⟩))) (fun hst => ?_) ⟨Hv.put_same, trivial⟩⟩
      · have hf := hfirst w rfl
        simp [Builtin.append_, run_underlying hu, run_underlying hu', run_sizeOf hsz, hlen, hf, hfit, add_none, hst]
      · simp only [blk, hcpos, if_true, Option.some.injEq] at hc
        subst hc
        exact .inr ⟨ob, v0, hg, hk0, hblk⟩
      · subst e'
        exact hne (by simp [blk, hcpos])
      · rcases Nat.eq_zero_or_pos cap with hc0 | hc0
        · omega
        · refine .inr ⟨b, off, cap, _, ty, by rw [hnew], hc0, by rw [hnew]; exact hfit, putBlock_same (heap_lt hw), by rw [size_writeAt _ _ _ hroom]; exact hvs, fun i x hx => ?_⟩
          by_cases hi : i < zs.length
          · rw [List.getElem?_append_left hi] at hx
            obtain ⟨es, hr, hc⟩ := hin i x hx
            refine ⟨es, hr.step hst, fun j c hj => ?_⟩
            have hjl := (List.getElem?_eq_some_iff.1 hj).1
            have hl := hr.length
            have hm2 : (i + 1) * e.size ≤ zs.length * e.size := Nat.mul_le_mul_right _ hi
            rw [Nat.succ_mul] at hm2
            rw [get_writeAt _ _ _ hroom, if_pos (by omega)]
            exact hc j c hj
          · rw [List.getElem?_append_right (by omega)] at hx
            obtain ⟨es, hr, hc⟩ := hcs _ x hx
            refine ⟨es, hr.step hst, fun j c hj => ?_⟩
            have := hc j c hj
            have hcj := (List.getElem?_eq_some_iff.1 this).1
            have hm2 : i * e.size = zs.length * e.size + (i - zs.length) * e.size := by rw [← Nat.add_mul]; congr 1; omega
            rw [get_writeAt _ _ _ hroom, if_neg (by omega), if_pos (by omega)]
            rw [← this]
            congr 1
            omega
  · -- a new row
    have hneed : cap < zs.length + ys.length := by omega
    have hcapb : Builtin.nextslicecap (zs.length + ys.length) cap * info.bytes ≤ 2 ^ 48 := by
      have h1 : Builtin.nextslicecap (zs.length + ys.length) cap * info.bytes ≤ 2 * (zs.length + ys.length) * info.bytes := Nat.mul_le_mul_right _ (nextslicecap_le hneed)
      rw [Nat.mul_assoc] at h1
      unfold maxBytes at hmax
      rw [hib] at h1 ⊢
      omega
    let q : Question := .appendCap (zs.length + ys.length) cap te
    let newCap := q.cut (w.tape w.drawn q)
    have hnc : zs.length + ys.length ≤ newCap := by simp only [newCap, q, Question.cut]; omega
    -- the cells that were
    obtain ⟨old, hol, hold, hof⟩ : ∃ old : List Value, old.length = zs.length * e.size ∧ (∀ (i : Nat) (x : e.den), zs[i]? = some x → ∃ es, Rep w (All S0 hv st1) e x es ∧ ∀ (j : Nat) (c : Value), es[j]? = some c → old[i * e.size + j]? = some c) ∧
        ∀ w' : World, w'.heap = w.heap → (Builtin.firstCells e.size zs.length (.slice A zs.length cap)).run P w' = .ok old.toArray w' := by
      rcases hsrc with h0 | ⟨b, off, vs, ty, ob, v0, rfl, hw, hvs, hin, hg, hk0, hblk⟩
      · have hz0 : zs = [] := List.eq_nil_of_length_eq_zero (by omega)
        subst hz0
        refine ⟨[], by simp, fun i x hx => by simp at hx, fun w' _ => ?_⟩
        cases A with
        | none => simp [Builtin.firstCells]
        | some ad => simp [Builtin.firstCells, loadCells, loadCellsFrom]
      · have hm2 : zs.length * e.size ≤ cap * e.size := Nat.mul_le_mul_right _ hmc
        refine ⟨(vs.toList.drop off).take (zs.length * e.size), by simp; omega, fun i x hx => ?_, fun w' hw' => ?_⟩
        · obtain ⟨es, hr, hc⟩ := hin i x hx
          refine ⟨es, hr, fun j c hj => ?_⟩
          have hi : i < zs.length := (List.getElem?_eq_some_iff.1 hx).1
          have hjl := (List.getElem?_eq_some_iff.1 hj).1
          have hl := hr.length
          have hm3 : (i + 1) * e.size ≤ zs.length * e.size := Nat.mul_le_mul_right _ hi
          rw [Nat.succ_mul] at hm3
          rw [List.getElem?_take, if_pos (by omega), List.getElem?_drop, Array.getElem?_toList, ← Nat.add_assoc]
          exact hc j c hj
        · simp only [Builtin.firstCells]
          have := run_loadCells_list (P := P) (w := w') ⟨b, off, none⟩ ((vs.toList.drop off).take (zs.length * e.size)) fun j v hj => by
            rw [List.getElem?_take] at hj
            split at hj
            · rw [List.getElem?_drop, Array.getElem?_toList] at hj
              rw [add_none, cell_of (by rw [hw']; exact hw)]
              exact hj
            · cases hj
          rw [show ((vs.toList.drop off).take (zs.length * e.size)).length = zs.length * e.size by simp; omega] at this
          exact this
    let rest : Array Value := Builtin.zeroCells z.cells (newCap - (zs.length + ys.length))
    have hrest : rest.size = (newCap - (zs.length + ys.length)) * e.size := by simp [rest, Builtin.zeroCells, hzl]
    let cells : Array Value := old.toArray ++ cs.toArray ++ rest
    have hcsz : newCap * e.size ≤ cells.size := by
      simp only [cells, Array.size_append, List.size_toArray, hol, hcl, hrest]
      rw [← Nat.add_mul, ← Nat.add_mul]
      exact Nat.mul_le_mul_right _ (by omega)
    have hin2 : RowIn w (All S0 hv st1) e (zs ++ ys) cells 0 := by
      intro i x hx
      by_cases hi' : i < zs.length
      · rw [List.getElem?_append_left hi'] at hx
        obtain ⟨es, hr, hc⟩ := hold i x hx
        refine ⟨es, hr, fun j c hj => ?_⟩
        have := hc j c hj
        have hlt := (List.getElem?_eq_some_iff.1 this).1
        rw [Nat.zero_add]
        simp only [cells]
        rw [Array.append_assoc, Array.getElem?_append_left (by simpa using hlt)]
        simpa using this
      · rw [List.getElem?_append_right (by omega)] at hx
        obtain ⟨es, hr, hc⟩ := hcs _ x hx
        refine ⟨es, hr, fun j c hj => ?_⟩
        have := hc j c hj
        have hlt := (List.getElem?_eq_some_iff.1 this).1
        have hm2 : i * e.size = zs.length * e.size + (i - zs.length) * e.size := by rw [← Nat.add_mul]; congr 1; omega
        rw [Nat.zero_add]
        simp only [cells]
        rw [Array.append_assoc, Array.getElem?_append_right (by simp; omega), Array.getElem?_append_left (by simp; omega)]
        simp only [List.size_toArray, hol, List.getElem?_toArray]
        rw [← this]
        congr 1
        omega
    refine ⟨_, .slice (some ⟨w.heap.size, 0, none⟩) (zs.length + ys.length) newCap, w.drew.alloc (.cells cells te), fun t => ?_,
      Post.lay h hgh h1 hsub hk k0 (.slice (some ⟨w.heap.size, 0, none⟩) (zs.length + ys.length) newCap) (.row e (zs ++ ys)) rfl (fun b hb => ?_) (fun b hlt _ => heap_push_lt w.drew _ hlt) (h.keep.drew.alloc h.bn _) (fun hst => ?_) ⟨Hv.put_same, trivial⟩⟩
    · have hf := hfirst w.drew rfl
      have ho := hof w.drew rfl
      have hneed' : ¬ (zs.length + ys.length ≤ cap) := hfit
      have hb0' : info.bytes ≠ 0 := by omega
      have hbig : ¬ (Builtin.nextslicecap (zs.length + ys.length) cap * info.bytes > 2 ^ 48) := by omega
      have hch : (choose (.appendCap (zs.length + ys.length) cap te)).run P w = .ok newCap w.drew := by
        rw [run_choose]
        rfl
      simp only [Builtin.append_, List.getElem?_toArray, List.getElem?_cons_zero, List.getElem?_cons_succ, Sem.run_bind, run_underlying hu, run_underlying hu', run_sizeOf hsz, Result.andThen_ok, Sem.run_pure, Bool.false_eq_true, if_false, hlen, if_neg hneed', typeInfo, run_program, hi, hb0', or_self, and_false, if_neg hbig, hch, run_askRoom, ho, Bool.not_false, if_true, hf, run_zero hz, newRow, run_newObj]
      rfl
    · simp only [blk] at hb
      split at hb
      · injection hb with hb
        omega
      · cases hb
    · rcases Nat.eq_zero_or_pos newCap with hc0 | hc0
      · omega
      · refine .inr ⟨w.heap.size, 0, newCap, cells, te, by rw [hnew], hc0, by rw [hnew]; exact hnc, heap_push w.drew _, by omega, fun i x hx => ?_⟩
        obtain ⟨es, hr, hc⟩ := hin2 i x hx
        exact ⟨es, hr.step hst, hc⟩
end Go.Ev
