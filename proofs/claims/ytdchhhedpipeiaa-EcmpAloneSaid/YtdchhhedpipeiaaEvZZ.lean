/- A contract of things by reference, at a caller. -/
import Derived.Test.YtdchhhedpipeiaaEvZ
set_option linter.unusedVariables false
set_option linter.unusedSimpArgs false
namespace Go.Ev
open Go.RowKit

section
variable {w w' : World} {S S' S0 : Nat → Prop} {hv hvC : Hv} {st : Store}

theorem range_canon {hv hvC : Hv} : ∀ (ks : List Nat) (d : Nat) (l : List Value), (∀ (i key : Nat), ks[i]? = some key → hvC (d + i) = hv key) → All2 (fun k v => hv k = some v) ks l → All2 (fun k v => hvC k = some v) (List.range' d ks.length) l
  | [], d, [], _, _ => trivial
  | [], d, _ :: _, _, h => h.elim
  | _ :: _, d, [], _, h => h.elim
  | k :: ks, d, v :: l, hh, h => ⟨(hh 0 k rfl).trans h.1, range_canon ks (d + 1) l (fun i key hi => by
      have := hh (i + 1) key (by simpa using hi)
      rwa [show d + (i + 1) = d + 1 + i by omega] at this) h.2⟩

theorem slot_canon (k : AK) (d : Nat) {y : k.den} {kk : List Nat} {g : Slot} {v : Value} (hr : k.read st g = some (y, kk)) (h2 : SlotRep w S hv g v) (hC : ∀ (i key : Nat), kk[i]? = some key → hvC (d + i) = hv key) :
    SlotRep w S hvC (k.slot d y) v ∧ kk.length = k.keys ∧ ∀ (i key : Nat), kk[i]? = some key → ∃ ob, (k.obs y)[i]? = some ob ∧ st.get key = some ob := by
  cases k with
  | pure t =>
    simp only [AK.read] at hr
    unfold rdPure at hr
    split at hr
    · split at hr
      · rename_i e
        subst e
        injection hr with hr
        injection hr with hr1 hr2
        subst hr1 hr2
        exact ⟨h2, rfl, fun i key h => by simp at h⟩
      · cases hr
    · cases hr
  | con t =>
    simp only [AK.read] at hr
    unfold rdCon at hr
    split at hr
    · split at hr
      · rename_i e
        subst e
        injection hr with hr
        injection hr with hr1 hr2
        subst hr1 hr2
        exact ⟨h2, rfl, fun i key h => by simp at h⟩
      · cases hr
    · cases hr
  | row e =>
    simp only [AK.read] at hr
    unfold rdRow at hr
    split at hr
    · rename_i k'
      split at hr
      · rename_i xs hxs
        injection hr with hr
        injection hr with hr1 hr2
        subst hr1 hr2
        refine ⟨⟨(hC 0 k' rfl).trans h2.1, h2.2⟩, rfl, fun i key h => ?_⟩
        have hi : i = 0 ∧ k' = key := by
          cases i with
          | zero => simpa using h
          | succ i => simp at h
        obtain ⟨rfl, rfl⟩ := hi
        exact ⟨_, rfl, wrow_get hxs⟩
      · cases hr
    · cases hr
  | cell t =>
    simp only [AK.read] at hr
    unfold rdCell at hr
    split at hr
    · rename_i k'
      split at hr
      · rename_i z hz
        injection hr with hr
        injection hr with hr1 hr2
        subst hr1 hr2
        refine ⟨?_, rfl, fun i key h => ?_⟩
        · have he := hC 0 k' rfl
          rcases h2 with ⟨b, h1, h2⟩ | ⟨b, o, len, cap, h1, h2⟩
          · exact .inl ⟨b, he.trans h1, h2⟩
          · exact .inr ⟨b, o, len, cap, he.trans h1, h2⟩
        · have hi : i = 0 ∧ k' = key := by
            cases i with
            | zero => simpa using h
            | succ i => simp at h
          obtain ⟨rfl, rfl⟩ := hi
          exact ⟨_, rfl, cell_read hz⟩
      · cases hr
    · cases hr
  | fn f cs =>
    simp only [AK.read] at hr
    unfold rdFn at hr
    split at hr
    · rename_i f' ks
      cases hb : Nat.beq f' f with
      | false => rw [hb] at hr; cases hr
      | true =>
        rw [hb] at hr
        have hff := Nat.eq_of_beq_eq_true hb
        subst hff
        simp only [cond_true] at hr
        split at hr
        · rename_i z hz
          injection hr with hr
          injection hr with hr1 hr2
          subst hr1 hr2
          obtain ⟨c1, c2⟩ := caps_read cs ks z hz
          obtain ⟨l2, b1, b2⟩ := h2
          refine ⟨⟨l2, ?_, b2⟩, c1, c2⟩
          rw [← c1]
          exact range_canon ks d l2 hC b1
        · cases hr
    · cases hr

theorem slots_canon : ∀ (ks : List AK) (d : Nat) {y : Data ks} {kk : List Nat} {gs : List Slot} {vals : List Value}, readBy st ks gs = some (y, kk) → All2 (SlotRep w S hv) gs vals → (∀ (i key : Nat), kk[i]? = some key → hvC (d + i) = hv key) →
    All2 (SlotRep w S hvC) (slotsOf d ks y) vals ∧ kk.length = keysOf ks ∧ ∀ (i key : Nat), kk[i]? = some key → ∃ ob, (obsOf ks y)[i]? = some ob ∧ st.get key = some ob
  | [], d, y, kk, [], [], hr, _, _ => by
    simp only [readBy, Option.some.injEq, Prod.mk.injEq] at hr
    obtain ⟨_, rfl⟩ := hr
    exact ⟨trivial, rfl, fun i key h => by simp at h⟩
  | [], d, y, kk, _ :: _, _, hr, _, _ => by simp [readBy] at hr
  | [], d, y, kk, [], _ :: _, _, h, _ => h.elim
  | _ :: _, d, y, kk, [], _, hr, _, _ => by simp [readBy] at hr
  | _ :: _, d, y, kk, _ :: _, [], _, h, _ => h.elim
  | k :: r, d, y, kk, g :: gs, v :: vs, hr, h2, hC => by
    simp only [readBy] at hr
    split at hr
    · rename_i y1 l hy1
      split at hr
      · rename_i y2 m hy2
        simp only [Option.some.injEq, Prod.mk.injEq] at hr
        obtain ⟨rfl, rfl⟩ := hr
        obtain ⟨p1, p2, p3⟩ := slot_canon k d hy1 h2.1 fun i key hi => hC i key (by rw [List.getElem?_append_left (List.getElem?_eq_some_iff.1 hi).1]; exact hi)
        obtain ⟨q1, q2, q3⟩ := slots_canon r (d + k.keys) hy2 h2.2 fun i key hi => by
          have := hC (l.length + i) key (by rw [List.getElem?_append_right (by omega), Nat.add_sub_cancel_left]; exact hi)
          rwa [p2, ← Nat.add_assoc] at this
        have ho' := obs_length k y1
        refine ⟨⟨p1, q1⟩, by simp [keysOf, p2, q2], fun i key hi => ?_⟩
        show ∃ ob, (k.obs y1 ++ obsOf r y2)[i]? = some ob ∧ _
        by_cases hlt : i < l.length
        · rw [List.getElem?_append_left hlt] at hi
          rw [List.getElem?_append_left (by omega)]
          exact p3 i key hi
        · rw [List.getElem?_append_right (by omega)] at hi
          rw [List.getElem?_append_right (by omega), ho', ← p2]
          exact q3 _ key hi
      · cases hr
    · cases hr

theorem get_putAll : ∀ (kk : List Nat) (os : List Ob) (st : Store) (j : Nat), kk.Nodup → os.length = kk.length → (∀ (i : Nat), kk[i]? = some j → (putAll kk os st).get j = os[i]?) ∧ (j ∉ kk → (putAll kk os st).get j = st.get j)
  | [], [], st, j, _, _ => ⟨fun i h => by simp at h, fun _ => rfl⟩
  | [], _ :: _, st, j, _, h => by simp at h
  | _ :: _, [], st, j, _, h => by simp at h
  | k :: kk, o :: os, st, j, hn, hl => by
    obtain ⟨h1, h2⟩ := get_putAll kk os (st.put k o) j (List.nodup_cons.1 hn).2 (by simpa using hl)
    refine ⟨fun i hi => ?_, fun hj => ?_⟩
    · simp only [putAll]
      cases i with
      | zero =>
        simp at hi
        subst hi
        rw [h2 (List.nodup_cons.1 hn).1, get_put, if_pos rfl]
        rfl
      | succ i => exact h1 i (by simpa using hi)
    · simp only [putAll]
      rw [h2 (fun h => hj (List.mem_cons_of_mem _ h)), get_put, if_neg (fun (h : j = k) => hj (by rw [h]; exact List.mem_cons_self))]

theorem blk_kind {x x' : Ob} {v : Value} (h : (∃ e xs ys, x = Ob.row e xs ∧ x' = .row e ys) ∨ ∃ cs ds, x = .cells cs ∧ x' = .cells ds) : blk x v = blk x' v := by
  rcases h with ⟨e, xs, ys, rfl, rfl⟩ | ⟨cs, ds, rfl, rfl⟩ <;> cases v <;> first | rfl | (rename_i a _ _; cases a <;> rfl) | (rename_i a; cases a <;> rfl)
theorem capsOb_alike : ∀ (cs : List Ty) (x y : Tup cs) (i : Nat) (a b : Ob), (capsOb cs x)[i]? = some a → (capsOb cs y)[i]? = some b → ∃ p q, a = .cells p ∧ b = .cells q
  | [], _, _, i, a, b, h, _ => by simp [capsOb] at h
  | t :: cs, x, y, 0, a, b, h, h' => by
    simp only [capsOb, List.getElem?_cons_zero, Option.some.injEq] at h h'
    exact ⟨_, _, h.symm, h'.symm⟩
  | t :: cs, x, y, i + 1, a, b, h, h' => capsOb_alike cs x.2 y.2 i a b (by simpa [capsOb] using h) (by simpa [capsOb] using h')
theorem obsOf_alike : ∀ (ks : List AK) (x y : Data ks) (i : Nat) (a b : Ob), (obsOf ks x)[i]? = some a → (obsOf ks y)[i]? = some b → (∃ e xs ys, a = Ob.row e xs ∧ b = .row e ys) ∨ ∃ cs ds, a = .cells cs ∧ b = .cells ds
  | [], _, _, i, a, b, h, _ => by simp [obsOf] at h
  | k :: r, x, y, i, a, b, h, h' => by
    have l1 := obs_length k x.1
    have l2 := obs_length k y.1
    have h : (k.obs x.1 ++ obsOf r x.2)[i]? = some a := h
    have h' : (k.obs y.1 ++ obsOf r y.2)[i]? = some b := h'
    by_cases hi : i < k.keys
    · rw [List.getElem?_append_left (by omega)] at h h'
      cases k with
      | pure t => simp [AK.obs] at h
      | row e =>
        have : i = 0 := by simp [AK.keys] at hi; exact hi
        subst this
        simp only [AK.obs, List.getElem?_cons_zero, Option.some.injEq] at h h'
        exact .inl ⟨e, _, _, h.symm, h'.symm⟩
      | cell t =>
        have : i = 0 := by simp [AK.keys] at hi; exact hi
        subst this
        simp only [AK.obs, List.getElem?_cons_zero, Option.some.injEq] at h h'
        exact .inr ⟨_, _, h.symm, h'.symm⟩
      | fn f cs => exact .inr (capsOb_alike cs x.1 y.1 i a b h h')
      | con t => simp [AK.obs] at h
    · rw [List.getElem?_append_right (by omega)] at h h'
      rw [l1] at h
      rw [l2] at h'
      exact obsOf_alike r x.2 y.2 _ a b h h'
theorem shift_res {T T' : Nat → Prop} {hv' hv2 : Hv} : ∀ (os : List OT) (x : OTup os) (d key : Nat) (us : List Value), outsHold os = false → (∀ i, i < freshes os → hv2 (key + i) = hv' (d + i)) → All2 (AVRep w' T hv') (resAVs os x d) us → All2 (AVRep w' T' hv2) (resAVs os x key) us
  | [], x, d, key, [], _, _, _ => trivial
  | [], x, d, key, _ :: _, _, _, h => h.elim
  | .pure t :: os, x, d, key, [], _, _, h => h.elim
  | .fresh t :: os, x, d, key, [], _, _, h => h.elim
  | .pure t :: os, x, d, key, u :: us, ho, hh, h => by
    simp only [outsHold, Bool.or_eq_false_iff] at ho
    obtain ⟨⟨cs, p1, p2⟩, p3⟩ := h
    exact ⟨⟨cs, p1.noSl ho.1, p2⟩, shift_res os x.2 d key us ho.2 hh p3⟩
  | .fresh t :: os, x, d, key, u :: us, ho, hh, h => by
    simp only [outsHold, Bool.or_eq_false_iff] at ho
    obtain ⟨p1, p3⟩ := h
    refine ⟨⟨(hh 0 (by simp [freshes])).trans p1.1, p1.2⟩, shift_res os x.2 (d + 1) (key + 1) us ho.2 (fun i hi => ?_) p3⟩
    have := hh (i + 1) (by simp only [freshes]; omega)
    rwa [show key + 1 + i = key + (i + 1) by omega, show d + 1 + i = d + (i + 1) by omega]
end

theorem ext_of_by {tr : Bool} {P : Program} {f : FuncId} {sp : BySpec} (h : By tr P f sp) : ExtOk tr P f (extBy sp) := by
  intro w0 w S0 hv st key as vals R d htr hX hd hst hsl hbase hs0 hkeep hgh hk
  subst htr
  unfold extBy at hX
  split at hX
  · rename_i x kk hread
    split at hX
    · rename_i hc
      injection hX with hX
      subst hX
      obtain ⟨r, x'⟩ := d
      simp only [Bool.and_eq_true, Bool.not_eq_true', Nat.ble_eq] at hc
      obtain ⟨⟨c1, c2⟩, c3⟩ := hc
      have hnd := nodupB_sound c1
      have hF : sp.F x = some (r, x') := hd
      obtain ⟨hvC, hvCe⟩ : ∃ hvC : Hv, ∀ i, hvC i = (kk[i]?).bind hv := ⟨fun i => (kk[i]?).bind hv, fun _ => rfl⟩
      have hvCk : ∀ (i k : Nat), kk[i]? = some k → hvC (0 + i) = hv k := fun i k hi => by rw [Nat.zero_add, hvCe, hi]; rfl
      obtain ⟨hs1, hkl, hobs⟩ := slots_canon sp.ks 0 hread hsl hvCk
      obtain ⟨sto, hsto⟩ : ∃ s, s = storeOf 0 (obsOf sp.ks x) := ⟨_, rfl⟩
      have hget : ∀ i ob, sto.get i = some ob → ∃ k, kk[i]? = some k ∧ st.get k = some ob ∧ hvC i = hv k := fun i ob hi => by
        rw [hsto, get_storeOf, if_pos (by omega), Nat.sub_zero] at hi
        have hil := (List.getElem?_eq_some_iff.1 hi).1
        rw [obsOf_length, ← hkl] at hil
        have hki : kk[i]? = some kk[i] := List.getElem?_eq_getElem hil
        obtain ⟨ob', z1, z2⟩ := hobs i _ hki
        rw [hi] at z1
        injection z1 with z1
        subst z1
        exact ⟨_, hki, z2, by have := hvCk i _ hki; rwa [Nat.zero_add] at this⟩
      have hown : ∀ b, Own hvC sto b → Own hv st b := fun b ⟨i, ob, v, y1, y2, y3⟩ => by
        obtain ⟨k, z1, z2, z3⟩ := hget i ob y1
        exact ⟨k, ob, v, z2, z3 ▸ y2, y3⟩
      obtain ⟨S1, hS1⟩ : ∃ S1 : Nat → Prop, ∀ b, S1 b ↔ All S0 hv st b ∧ ¬ Own hvC sto b := ⟨fun b => All S0 hv st b ∧ ¬ Own hvC sto b, fun _ => Iff.rfl⟩
      have hall : All S1 hvC sto = All S0 hv st := funext fun b => propext ⟨fun hb => hb.elim (fun hb => ((hS1 b).1 hb).1) (fun hb => .inr (hown b hb)), fun hb => by
        by_cases ho : Own hvC sto b
        · exact .inr ho
        · exact .inl ((hS1 b).2 ⟨hb, ho⟩)⟩
      have hlt : ∀ b, All S0 hv st b → b < w.heap.size := fun b hb => by
        rcases hb with hb | ⟨k, ob, v, y1, y2, y3⟩
        · exact Nat.lt_of_lt_of_le (hs0 b hb) hkeep.size
        · exact hst.blk_lt y1 y2 y3
      have hstC : StRel w S1 hvC sto := by
        refine ⟨fun i ob hi => ?_, fun i ob v i' ob' v' b y1 y2 y3 y4 y5 y6 => ?_, fun b hb hb1 => ((hS1 b).1 hb1).2 hb⟩
        · obtain ⟨k, z1, z2, z3⟩ := hget i ob hi
          obtain ⟨v, p1, p2⟩ := hst.objs k ob z2
          rw [hall]
          exact ⟨v, z3.trans p1, p2.hv_free (get_mem (hsto ▸ hi))⟩
        · obtain ⟨k, z1, z2, z3⟩ := hget i ob y1
          obtain ⟨k', z1', z2', z3'⟩ := hget i' ob' y4
          have := hst.inj k ob v k' ob' v' b z2 (z3 ▸ y2) y3 z2' (z3' ▸ y5) y6
          subst this
          exact (List.getElem?_inj (List.getElem?_eq_some_iff.1 z1).1 hnd).1 (z1.trans z1'.symm)
      refine (h x r x' hF w w0.n S1 hvC vals (Nat.le_trans w0.le hkeep.size) (fun b hb => hlt b ((hS1 b).1 hb).1) (hsto ▸ hstC) (by rw [← hsto, hall]; exact hs1) (fun b hb => hbase b (hown b (by rw [hsto]; exact hb)))).mono ?_
      rintro e w' ⟨v, vs, hv', rfl, rfl, e1, e2, e3, e4, e5, e6, e7⟩
      rw [← hsto, hall] at e6
      obtain ⟨hv2, hv2a, hv2b⟩ : ∃ hv2 : Hv, (∀ i, i < freshes sp.outs → hv2 (key + i) = hv' (keysOf sp.ks + i)) ∧ ∀ k, ¬ (key ≤ k ∧ k < key + freshes sp.outs) → hv2 k = hv k :=
        ⟨fun k => if key ≤ k ∧ k < key + freshes sp.outs then hv' (keysOf sp.ks + (k - key)) else hv k, fun i hi => by simp only []; rw [if_pos (by omega), Nat.add_sub_cancel_left], fun k hk => if_neg hk⟩
      have hkfree : ∀ k v, hv k = some v → ¬ (key ≤ k ∧ k < key + freshes sp.outs) := fun k v hkv hh => by
        have := hk (k - key) (by omega)
        rw [show key + (k - key) = k by omega, hkv] at this
        cases this
      have hle : hv.le hv2 := fun k v hkv => by rw [hv2b k (hkfree k v hkv)]; exact hkv
      have hol := obsOf_length sp.ks x'
      obtain ⟨st2, hst2⟩ : ∃ s, s = resStore sp.outs r key (putAll kk (obsOf sp.ks x') st) := ⟨_, rfl⟩
      -- what stands where
      have hcase : ∀ (j : Nat) (ob : Ob), st2.get j = some ob → (∃ i, i < freshes sp.outs ∧ j = key + i ∧ (endStore sp r x').get (keysOf sp.ks + i) = some ob ∧ ∃ t xs, ob = .row t xs ∧ t.hasSl = false) ∨
          (∃ i ob0, kk[i]? = some j ∧ (obsOf sp.ks x')[i]? = some ob ∧ (endStore sp r x').get i = some ob ∧ sto.get i = some ob0 ∧ st.get j = some ob0 ∧ hv2 j = hv j ∧ hv' i = hv j ∧ (∀ v, blk ob v = blk ob0 v)) ∨ (j ∉ kk ∧ st.get j = some ob ∧ hv2 j = hv j) := by
        intro j ob hj
        rw [hst2, get_resStore] at hj
        split at hj
        · rename_i hjj
          left
          refine ⟨j - key, by omega, by omega, ?_, ?_⟩
          · unfold endStore
            rw [get_resStore, if_pos (by omega), Nat.add_sub_cancel_left]
            exact hj
          · rcases resStore_row sp.outs r 0 [] _ ob hj with h' | ⟨t, xs, rfl, hns⟩
            · cases h'
            · exact ⟨t, xs, rfl, hns c2⟩
        · right
          obtain ⟨g1, g2⟩ := get_putAll kk (obsOf sp.ks x') st j hnd (by omega)
          by_cases hm : j ∈ kk
          · obtain ⟨i, hi, hij⟩ := List.getElem_of_mem hm
            have hki : kk[i]? = some j := by rw [List.getElem?_eq_getElem hi, hij]
            rw [g1 i hki] at hj
            obtain ⟨ob0, z1, z2⟩ := hobs i j hki
            left
            refine ⟨i, ob0, hki, hj, ?_, ?_, z2, ?_, ?_, fun v => blk_kind (obsOf_alike _ x' x i ob ob0 hj z1)⟩
            · unfold endStore
              rw [get_resStore, if_neg (by omega), get_storeOf, if_pos (by omega), Nat.sub_zero]
              exact hj
            · rw [hsto, get_storeOf, if_pos (by omega), Nat.sub_zero]
              exact z1
            · obtain ⟨v, p1, _⟩ := hst.objs j ob0 z2
              exact hv2b j (hkfree j v p1)
            · have := hvCk i j hki
              rw [Nat.zero_add] at this
              exact (e1 i (by omega)).trans this
          · right
            rw [g2 hm] at hj
            obtain ⟨v, p1, _⟩ := hst.objs j ob hj
            exact ⟨hm, hj, hv2b j (hkfree j v p1)⟩
      have hS0 : ∀ b, S0 b → S1 b := fun b hb => (hS1 b).2 ⟨.inl hb, fun ho => hst.out b (hown b ho) hb⟩
      have hothers : ∀ j ob u b, j ∉ kk → st.get j = some ob → hv j = some u → blk ob u = some b → S1 b := fun j ob u b z1 z2 z3 y3 => by
        refine (hS1 b).2 ⟨.inr ⟨j, ob, u, z2, z3, y3⟩, fun ⟨i, o1, v1, p1, p2, p3⟩ => ?_⟩
        obtain ⟨k, q1, q2, q3⟩ := hget i o1 p1
        have := hst.inj j ob u k o1 v1 b z2 z3 y3 q2 (q3 ▸ p2) p3
        subst this
        exact z1 (List.mem_of_getElem? q1)
      have hwhere : ∀ j ob u b, st2.get j = some ob → hv2 j = some u → blk ob u = some b → (∃ m, (endStore sp r x').get m = some ob ∧ hv' m = some u ∧ ((∃ i, i < freshes sp.outs ∧ j = key + i ∧ m = keysOf sp.ks + i) ∨ (m < keysOf sp.ks ∧ kk[m]? = some j))) ∨
          (st.get j = some ob ∧ hv j = some u ∧ S1 b) := by
        intro j ob u b y1 y2 y3
        rcases hcase j ob y1 with ⟨i, hi, rfl, z1, _⟩ | ⟨i, ob0, z1, z2, z3, z4, z5, z6, z7, z8⟩ | ⟨z1, z2, z3⟩
        · exact .inl ⟨_, z1, by rw [← hv2a i hi]; exact y2, .inl ⟨i, hi, rfl, rfl⟩⟩
        · refine .inl ⟨i, z3, by rw [z7, ← z6]; exact y2, .inr ⟨?_, z1⟩⟩
          have := (List.getElem?_eq_some_iff.1 z1).1
          omega
        · exact .inr ⟨z2, z3 ▸ y2, hothers j ob u b z1 z2 (z3 ▸ y2) y3⟩
      have hsubset : ∀ b, All S0 hv2 st2 b → All S1 hv' (endStore sp r x') b := by
        intro b hb
        rcases hb with hb | ⟨j, ob, u, y1, y2, y3⟩
        · exact .inl (hS0 b hb)
        · rcases hwhere j ob u b y1 y2 y3 with ⟨m, z1, z2, _⟩ | ⟨_, _, z⟩
          · exact .inr ⟨m, ob, u, z1, z2, y3⟩
          · exact .inl z
      have hstep : StepOk w (All S0 hv st) w' (All S0 hv2 st2) := e6.sub hsubset
      have hs' : StepOk w' (All S1 hv' (endStore sp r x')) w' (All S0 hv2 st2) := (StepOk.refl _ _).sub hsubset
      refine ⟨retOf vs, hv2, rfl, ?_⟩
      show Post w0 S0 hv st w key (slotOf (resAVs sp.outs r key)) (resStore sp.outs r key (putAll kk (obsOf sp.ks x') st)) hv2 (retOf vs) w'
      rw [← hst2]
      refine ⟨hst.change hstep hle (fun j ob hj => ?_) (fun j ob u j' ob' u' b y1 y2 y3 y4 y5 y6 => ?_) (fun b ⟨j, ob, u, y1, y2, y3⟩ hb0 => ?_), hstep, hle, fun k hk => hv2b k (by omega), slotOf_rep (shift_res sp.outs r (keysOf sp.ks) key vs c2 hv2a e3), fun b ⟨j, ob, u, y1, y2, y3⟩ => ?_, hkeep.trans e5, fun k sl hk => ?_, fun b hb0 => e7 b (hS0 b hb0)⟩
      · rcases hcase j ob hj with ⟨i, hi, rfl, z1, t, xs, rfl, _⟩ | ⟨i, ob0, z1, z2, z3, z4, z5, z6, z7, z8⟩ | ⟨z1, z2, z3⟩
        · obtain ⟨v, p1, p2⟩ := e2.objs _ _ z1
          refine .inr ⟨v, (hv2a i hi).trans p1, ?_⟩
          rcases p2 with q | ⟨b, off, cap, cells, ty, q1, w1, w2, w3, w4, w5⟩
          · exact .inl q
          · refine .inr ⟨b, off, cap, cells, ty, q1, w1, w2, w3, w4, fun i x hx => ?_⟩
            obtain ⟨es, v1, v2⟩ := w5 i x hx
            exact ⟨es, v1.step hs', v2⟩
        · obtain ⟨v, p1, p2⟩ := e2.objs _ _ z3
          exact .inr ⟨v, by rw [z6, ← z7]; exact p1, (p2.hv_free (hv' := hv2) (List.mem_of_getElem? z2)).step hs' (Hv.le_refl _) fun _ _ => rfl⟩
        · exact .inl ⟨z2, fun v b p1 p2 => e7 b (hothers j ob v b z1 z2 p1 p2)⟩
      · rcases hwhere j ob u b y1 y2 y3 with ⟨m, z1, z2, z3⟩ | ⟨z1, z2, z3⟩
        · rcases hwhere j' ob' u' b y4 y5 y6 with ⟨m', z1', z2', z3'⟩ | ⟨_, _, z3'⟩
          · have := e2.inj _ _ _ _ _ _ _ z1 z2 y3 z1' z2' y6
            subst this
            rcases z3 with ⟨i, _, rfl, hm⟩ | ⟨hm, hk1⟩
            · rcases z3' with ⟨i', _, rfl, hm'⟩ | ⟨hm', _⟩ <;> omega
            · rcases z3' with ⟨i', _, rfl, hm'⟩ | ⟨_, hk2⟩
              · omega
              · rw [hk1] at hk2
                injection hk2
          · exact absurd z3' (e2.out b ⟨m, ob, u, z1, z2, y3⟩)
        · rcases hwhere j' ob' u' b y4 y5 y6 with ⟨m', z1', z2', z3'⟩ | ⟨z1', z2', _⟩
          · exact absurd z3 (e2.out b ⟨m', ob', u', z1', z2', y6⟩)
          · exact hst.inj _ _ _ _ _ _ _ z1 z2 y3 z1' z2' y6
      · rcases hwhere j ob u b y1 y2 y3 with ⟨m, z1, z2, _⟩ | ⟨z1, z2, _⟩
        · exact e2.out b ⟨m, ob, u, z1, z2, y3⟩ (hS0 b hb0)
        · exact hst.out b ⟨j, ob, u, z1, z2, y3⟩ hb0
      · rcases hwhere j ob u b y1 y2 y3 with ⟨m, z1, z2, _⟩ | ⟨z1, z2, _⟩
        · exact e4 b ⟨m, ob, u, z1, z2, y3⟩
        · exact hbase b ⟨j, ob, u, z1, z2, y3⟩
      · rcases hcase k _ hk with ⟨i, hi, rfl, z1, t, xs, h', _⟩ | ⟨i, ob0, z1, z2, z3, z4, z5, z6, z7, z8⟩ | ⟨z1, z2, z3⟩
        · cases h'
        · rcases obsOf_kind sp.ks x' _ (List.mem_of_getElem? z2) with ⟨e, xs, h'⟩ | ⟨t, z, h'⟩ <;> cases h'
        · rw [z3]
          exact hgh k sl z2
    · cases hX
  · cases hX
end Go.Ev
