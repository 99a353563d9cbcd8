/- Contracts over slots of the library's functions on maps' keys. -/
import Derived.Test.YtdchhhedpipeiaaEvZL
import Derived.Test.YtdchhhedpipeiaaEvKeys0
import Derived.Shelf.SlIterI.Sorted
import Derived.Shelf.SlIterI.Keys
set_option linter.unusedVariables false
set_option linter.unusedSimpArgs false
namespace Go.Ev
open Go.RowKit Go.Shelf Go.Proofs Go.Maps

variable {P : Program} {ρ : Ren} {w0 : Base} {w : World} {S0 : Nat → Prop} {hv : Hv} {st : Store} {key : Nat}

/-- A new object in a world that has grown. -/
theorem Post.lay0 (h1 : StRel w S0 hv st) (hbase : ∀ b, Own hv st b → w0.n ≤ b) (hs0 : ∀ b, S0 b → b < w0.w.heap.size) (hkp : Below w0.tr w0.n w0.w w) (hg : ∀ k sl, st.get k = some (.ghost sl) → hv k = some w0.g) (hk : hv key = none) (v : Value) (ob : Ob) (hpl : ob.plain = true) {w' : World} {sl : Slot} {val : Value}
    (hb : ∀ b, blk ob v = some b → w.heap.size ≤ b)
    (hw : ∀ b, b < w.heap.size → w'.heap[b]? = w.heap[b]?)
    (hkeep : Below w0.tr w0.n w0.w w')
    (ho : StepOk w (All S0 hv st) w' (All S0 (hv.put key v) (st.put key ob)) → ObRep w' (All S0 (hv.put key v) (st.put key ob)) (hv.put key v) v ob)
    (hr : SlotRep w' (All S0 (hv.put key v) (st.put key ob)) (hv.put key v) sl val) :
    Post w0 S0 hv st w key sl (st.put key ob) (hv.put key v) val w' := by
  have he := erase_none (h1.fresh hk)
  obtain ⟨r1, r2, r3, r4⟩ := h1.lay (w' := w') hk key v ob (fun b hb => Nat.lt_of_lt_of_le (hs0 b hb) hkp.size) (fun b e => .inl (hb b e)) (fun b hlt _ => hw b hlt) (by rw [he]; exact ho)
  rw [he] at r1 r2 r4
  refine ⟨r1, r2, r3, fun j hj => Hv.put_ne (by omega), hr, fun b hb => ?_, hkeep, fun k s hks => ?_, fun b hb0 => hw b (Nat.lt_of_lt_of_le (hs0 b hb0) hkp.size)⟩
  · rcases r4 b hb with h' | h'
    · exact hbase b h'
    · exact Nat.le_trans (Nat.le_trans w0.le hkp.size) h'
  · rw [get_put] at hks
    split at hks
    · injection hks with hks
      subst hks
      cases hpl
    · rename_i hne
      rw [Hv.put_ne hne]
      exact hg k s hks

theorem keys_local (g : FuncId) : ExtLocal (keysExt g) where
  congr key sls st1 st2 R d hX hd hr := by
    unfold keysExt at hX ⊢
    split at hX
    · rename_i o
      have ho := hr o (reach_base (by simp [Slot.keys, AV.keys]))
      rw [← ho]
      split at hX
      · injection hX with hX
        subst hX
        exact ⟨⟨Unit, some (), fun _ => (.one (.fn g [key]), st2.put key (.cells [.own o]))⟩, d, rfl, hd, rfl, fun k hk => put_pw hk⟩
      · cases hX
    · cases hX
  frame key sls st R d k hX hd hk hr := by
    unfold keysExt at hX
    split at hX
    · split at hX
      · injection hX with hX
        subst hX
        exact put_ne (by omega)
      · cases hX
    · cases hX

theorem keys_ok (L : SlLaysZI.n7 P ρ) : ExtOk false P (ρ.f 7) (keysExt (ρ.f 10)) := by
  intro w0 w S0 hv st key sls vals R d htr hX hd hst hsl hbase hs0 hkeep hgh hk
  unfold keysExt at hX
  split at hX
  · rename_i o
    split at hX
    · rename_i kt vt l c ho
      injection hX with hX
      subst hX
      match vals, hsl with
      | [v], ⟨hv0, _⟩ =>
      have hv0 : AVRep w (All S0 hv st) hv (.own o) v := hv0
      obtain ⟨u, h1, b, es, rfl, h2, h3⟩ := hst.objs _ _ ho
      have e0 : v = .map (some b) := Option.some.inj (hv0.1.symm.trans h1)
      subst e0
      refine Calls.mono (callsIn_wide.1 (AnyZI.keys_in L Fence.wide 5 trivial rfl (some b) w)) ?_
      rintro e w' ⟨rfl, rfl⟩
      have hnew : (w.alloc (.cells #[.map (some b)] (ρ.t 23))).heap[w.heap.size]? = some (.cells #[.map (some b)] (ρ.t 23) (0, 0)) := heap_push _ _
      refine ⟨_, _, rfl, Post.lay0 (w0 := w0) hst hbase hs0 hkeep hgh (hk 0 (by omega)) (.pointer (some ⟨w.heap.size, 0, none⟩)) (.cells [.own o]) rfl (fun b hb => ?_) (fun b hb => heap_push_lt w _ hb) (hkeep.alloc (Nat.le_trans w0.le hkeep.size) _) (fun hsp => ?_) ?_⟩
      · simp only [blk, Option.some.injEq] at hb
        omega
      · exact ⟨_, _, _, rfl, hnew, ⟨⟨Hv.le_put (hk 0 (by omega)) _ _ hv0.1, trivial⟩, trivial⟩, trivial⟩
      · exact ⟨[_], ⟨Hv.put_same, trivial⟩, rfl⟩
    · cases hX
  · cases hX

theorem sorted_local (g : FuncId) (v : Ty) : ExtLocal (sortedExt g v) where
  congr key sls st1 st2 R d hX hd hr := by
    unfold sortedExt at hX ⊢
    split at hX
    · rename_i g' c
      cases hb : Nat.beq g' g with
      | false => rw [hb] at hX; cases hX
      | true =>
        rw [hb] at hX
        simp only [cond_true] at hX ⊢
        have hc : st1.get c = st2.get c := hr c (reach_base (by simp [Slot.keys, AV.keys]))
        rw [← hc]
        split at hX
        · rename_i o ho
          have e1 : (List.flatMap Slot.keys [Slot.one (.fn g' [c])]).flatMap (leads st1) = [o] := by
            simp only [List.flatMap_cons, List.flatMap_nil, Slot.keys, AV.keys, List.append_nil]
            unfold leads
            rw [ho]
            rfl
          have hoo : st1.get o = st2.get o := hr o (List.mem_append.2 (.inr (reach_base (by rw [e1]; exact List.mem_singleton.2 rfl))))
          rw [map_congr hoo] at hX
          split at hX
          · rename_i l n hl
            injection hX with hX
            subst hX
            simp only
            exact ⟨⟨List Int, sortedKeys (V := v.den) l n, fun xs => (.one (.own key), st2.put key (.row (.int .i64) xs))⟩, d, rfl, hd, rfl, fun k hk => put_pw hk⟩
          · cases hX
        · cases hX
    · cases hX
  frame key sls st R d k hX hd hk hr := by
    unfold sortedExt at hX
    split at hX
    · rename_i g' c
      cases hb : Nat.beq g' g with
      | false => rw [hb] at hX; cases hX
      | true =>
        rw [hb] at hX
        simp only [cond_true] at hX
        split at hX
        · split at hX
          · injection hX with hX
            subst hX
            exact put_ne (by omega)
          · cases hX
        · cases hX
    · cases hX

theorem mapIn_facts {S : Nat → Prop} {vt : Ty} : ∀ {l : List (Nat × (Ty.pair (.int .i64) vt).den)} {es : List MapEntry}, MapIn w S (.int .i64) vt l es →
    es.map (·.born) = l.map (·.1) ∧ es.map (·.key) = l.map fun p => Value.int .i64 p.2.1
  | [], [], _ => ⟨rfl, rfl⟩
  | [], _ :: _, h => h.elim
  | _ :: _, [], h => h.elim
  | p :: l, e :: es, h => by
    obtain ⟨⟨h1, ⟨ck, h2, h3⟩, _⟩, h4⟩ := h
    obtain ⟨g1, g2⟩ := mapIn_facts (l := l) h4
    have h2 : ck = [.int .i64 p.2.1] := h2
    subst h2
    refine ⟨by simp only [List.map_cons, g1, h1], ?_⟩
    simp only [List.map_cons, g2]
    rw [h3]
    rfl

/-- Whatever a map's value is: it is told as the same. -/
def trueElem : Value → Option (DataW Unit × List MemPlace) := fun _ => some (.lit (.bool true), [])
theorem sorted_ok {ρk : Ren} (L6 : SlLaysZI.n6 P ρ) (L10 : SlLaysZI.n10 P ρk) (hs : ∀ m, AnyZI.SortsIn P ρ Fence.wide m) (e9 : Entered P (ρ.f 9)) (e10 : Entered P (ρk.f 10)) (vt : Ty) : ExtOk false P (ρ.f 6) (sortedExt (ρk.f 10) vt) := by
  intro w0 w S0 hv st key sls vals R d htr hX hd hst hsl hbase hs0 hkeep hgh hk
  unfold sortedExt at hX
  split at hX
  · rename_i g' c
    cases hb : Nat.beq g' (ρk.f 10) with
    | false => rw [hb] at hX; cases hX
    | true =>
      rw [hb] at hX
      have hgg := Nat.eq_of_beq_eq_true hb
      subst hgg
      simp only [cond_true] at hX
      split at hX
      · rename_i o ho
        split at hX
        · rename_i l n hl
          injection hX with hX
          subst hX
          match vals, hsl with
          | [v], ⟨hv0, _⟩ =>
          obtain ⟨lf, hlf, rfl⟩ := hv0
          match lf, hlf with
          | [pc], ⟨hpc, _⟩ =>
          have hpc : hv c = some pc := hpc
          obtain ⟨u, h1, bc, us, ty1, rfl, h2, h3⟩ := hst.objs _ _ ho
          have e0 : pc = .pointer (some ⟨bc, 0, none⟩) := Option.some.inj (hpc.symm.trans h1)
          subst e0
          have hus : ∃ mv, us = #[mv] ∧ AVRep w (All S0 hv st) hv (.own o) mv := by
            match hul : us.toList, h3 with
            | [cv], hc1 => exact ⟨cv, by rw [← Array.toArray_toList (xs := us), hul], hc1.1.1⟩
          obtain ⟨mv, rfl, hmv⟩ := hus
          obtain ⟨b, es, rfl, hheap, hin, _⟩ := own_map hst hl hmv
          have hd : sortedKeys (V := vt.den) l n = some d := hd
          unfold sortedKeys at hd
          split at hd
          · rename_i hfine
            injection hd with hd
            obtain ⟨f1, f2, f3, f4, f5⟩ := hfine
            obtain ⟨m1, m2⟩ := mapIn_facts hin
            have hlen : es.size = l.length := by rw [← Array.length_toList, ← List.length_map (f := (·.born)), m1, List.length_map]
            have hmem : ∀ x ∈ es.toList, ∃ p ∈ l, x.key = .int .i64 p.2.1 := fun x hx => by
              have : x.key ∈ es.toList.map (·.key) := List.mem_map.2 ⟨x, hx, rfl⟩
              rw [m2] at this
              obtain ⟨p, h1, h2⟩ := List.mem_map.1 this
              exact ⟨p, h1, h2.symm⟩
            have hwf : ∀ p ∈ l, (Lit.int .i64 p.2.1).wf = true := fun p hp => by
              have := f4 p hp
              simp only [Lit.wf, IntKind.min, IntKind.max, IntKind.signed, IntKind.bits, Bool.and_eq_true, decide_eq_true_eq, if_true]
              omega
            have hrd : ∀ x ∈ es.toList, ∃ p ∈ l, x.key = .int .i64 p.2.1 ∧ WideElems.rd P (ρk.t 26) trueElem x = some (.int .i64 p.2.1, .lit (.bool true)) := fun x hx => by
              obtain ⟨p, hp, hkx⟩ := hmem x hx
              refine ⟨p, hp, hkx, ?_⟩
              obtain ⟨xk, xv, xb⟩ := x
              have hkx : xk = .int .i64 p.2.1 := hkx
              subst hkx
              exact WideElems.rd_mk (yv := (.lit (.bool true), [])) (keyOf_int_mk L10.t26 (hwf p hp)) rfl
            have hmax : (1000000000 : Nat) ≤ maxLen := by decide
            have hfit : WideElems.Fit P (ρk.t 26) trueElem es n := by
              refine ⟨by rw [hlen]; exact Nat.le_trans f5 hmax, ⟨fun x hx => ?_, by rw [m1]; exact f2, ?_⟩, fun x hx => ?_⟩
              · have : x.born ∈ es.toList.map (·.born) := List.mem_map.2 ⟨x, hx, rfl⟩
                rw [m1] at this
                obtain ⟨p, h1, h2⟩ := List.mem_map.1 this
                rw [← h2]
                exact f1 p h1
              · rw [m2, show (l.map fun p => Value.int .i64 p.2.1) = (l.map (·.2.1)).map (Value.int .i64) by rw [List.map_map]; rfl]
                exact List.Pairwise.map _ (fun a b hab e => hab (by simpa using e)) f3
              · obtain ⟨p, _, _, h⟩ := hrd x hx
                exact ⟨_, h⟩
            obtain ⟨D0, hD0⟩ : ∃ D0 : DataW Unit, D0 = .map ((es.toList.map (WideElems.rg P (ρk.t 26) trueElem)).foldr DataW.insert []) := ⟨_, rfl⟩
            have hown : w.ownsMap P (ρk.t 26) trueElem b es.size D0 := ⟨es, n, hheap, hfit, Nat.le_refl _, hD0⟩
            have hsp := WideShapes.sorted_perm (es.toList.map (WideElems.rg P (ρk.t 26) trueElem))
            have hsize : Maps.size D0 = l.length := by
              rw [hD0]
              show List.length _ = _
              rw [hsp.length_eq, List.length_map, Array.length_toList, hlen]
            have hkeys : (intKeys D0).Perm (l.map (·.2.1)) := by
              rw [hD0]
              show (List.map _ _).Perm _
              refine (hsp.map _).trans ?_
              have e1 : (es.toList.map (WideElems.rg P (ρk.t 26) trueElem)).map (fun p => intOf p.1) = (es.toList.map (·.key)).map fun v => match v with | .int _ a => a | _ => 0 := by
                rw [List.map_map, List.map_map]
                refine List.map_congr_left fun x hx => ?_
                obtain ⟨p, _, h1, h2⟩ := hrd x hx
                simp only [Function.comp, WideElems.rg_of h2, h1, intOf]
              rw [e1, m2, List.map_map]
              exact List.Perm.refl _
            have hlt1 := heap_lt h2
            have hcell : w.cell? ⟨bc, 0, none⟩ = some (.map (some b)) := by rw [cell_of h2]; rfl
            have hseq := AnyZI.keys_gives L10 Fence.wide 2 trivial rfl (by omega) bc b es.size D0 w hlt1 hcell hown
            have cS := AnyZI.sorted_in L6 Fence.wide 5 trivial trivial trivial trivial rfl (by omega) (hs _) e9 (ρk.f 10) #[.pointer (some ⟨bc, 0, none⟩)] trivial e10 _ (Maps.size D0) (by rw [hsize]; exact Nat.le_trans f5 hmax) (by rw [hsize]; omega) w hseq
            refine Calls.mono (callsIn_wide.1 cS) ?_
            rintro e w' ⟨rv, ss, rfl, hperm, hrow, hnil, hbel⟩
            have hsort : ss.mergeSort (fun x y => decide (x ≤ y)) = d := by
              rw [← hd]
              exact mergeSort_of_perm_i (hperm.trans hkeys)
            have hdl : d.length = ss.length := by rw [← hsort, List.length_mergeSort]
            rw [hsort] at hrow
            have hkp : Below w0.tr w0.n w0.w w' := hkeep.trans ⟨hbel.os, hbel.tape, hbel.output, hbel.size, fun j hj => hbel.block j (Nat.lt_of_lt_of_le hj (Nat.le_trans w0.le hkeep.size)), fun t => by rw [htr] at t; cases t⟩
            obtain ⟨_, hrow⟩ := hrow
            refine ⟨rv, _, rfl, Post.lay0 (w0 := w0) hst hbase hs0 hkeep hgh (hk 0 (by omega)) rv (.row (.int .i64) d) rfl (fun b hb => ?_) (fun j hj => hbel.block j hj) hkp (fun hstp => ?_) ⟨Hv.put_same, ?_⟩⟩
            · rcases hrow with ⟨rfl, _⟩ | ⟨g, cap, cur, rfl, hg1, _⟩
              · simp [blk] at hb
              · simp only [blk] at hb
                split at hb
                · injection hb with hb
                  omega
                · cases hb
            · rcases hrow with ⟨rfl, h0⟩ | ⟨g, cap, cur, rfl, hg1, hg2, hg3, hg4, hg5, hg6⟩
              · exact .inl ⟨none, rfl, List.eq_nil_of_length_eq_zero (by omega)⟩
              · rcases Nat.eq_zero_or_pos cap with h0 | h0
                · subst h0
                  have : ss.length = 0 := by omega
                  exact .inl ⟨_, by rw [this], List.eq_nil_of_length_eq_zero (by omega)⟩
                · refine .inr ⟨g, 0, cap, cur, _, by rw [hdl], h0, by omega, hg2, by rw [hg5]; simp [Ty.size], fun i x hx => ⟨[.int .i64 x], rfl, fun j c hj => ?_⟩⟩
                  have hj0 : j = 0 := by
                    have := (List.getElem?_eq_some_iff.1 hj).1
                    simp at this
                    exact this
                  subst hj0
                  simp only [List.getElem?_cons_zero, Option.some.injEq] at hj
                  subst hj
                  have hi : i < d.length := (List.getElem?_eq_some_iff.1 hx).1
                  have hsz : Ty.size (.int .i64) = 1 := rfl
                  rw [hsz, Nat.zero_add, Nat.mul_one, Nat.add_zero, ← Array.getElem?_toList]
                  have h5 : (cur.toList.take (ss.length * 1))[i]? = (d.map encZ)[i]? := by rw [hg6]
                  rw [List.getElem?_take, if_pos (by omega), List.getElem?_map, hx] at h5
                  exact h5
            · rcases hrow with ⟨rfl, _⟩ | ⟨g, cap, cur, rfl, _⟩ <;> trivial
          · cases hd
        · cases hX
      · cases hX
  · cases hX
end Go.Ev
