/- Steps: what they hang on, what they leave. -/
import Derived.Test.YtdchhhedpipeiaaEvO
set_option linter.unusedVariables false
set_option linter.unusedSimpArgs false
namespace Go.Ev

variable {E : Env} {s s1 s2 : St} {key : Nat} {o : Oper} {st st1 st2 : Store}

theorem put_ne {j k : Nat} {ob : Ob} (h : k ≠ j) : (st.put j ob).get k = st.get k := by rw [get_put, if_neg h]
theorem erase_ne {j k : Nat} (h : k ≠ j) : (st.erase j).get k = st.get k := by rw [get_erase, if_neg h]

theorem storeE_frame {T : TypeId} {a : AV} {v : Slot} {r : Store} (he : storeE E T a v st = some r) {k : Nat} (ha : k ∉ a.keys) (hv : ∀ u, E.ty T = some u → u.hasSl = true → k ∉ v.keys) : r.get k = st.get k := by
  unfold storeE at he
  split at he
  · rename_i j i sz off
    have hj : k ≠ j := fun e => ha (by simp [AV.keys, e])
    split at he
    · split at he
      · split at he
        · split at he
          · injection he with he
            subst he
            exact put_ne hj
          · cases he
        · cases he
      · cases he
    · split at he
      · rename_i u hu
        split at he
        · split at he
          · obtain ⟨z, hz, rfl⟩ := Option.map_eq_some_iff.1 he
            rw [put_ne hj]
            cases hs : u.hasSl with
            | false => exact get_fz_of (b := false) (.inl rfl)
            | true => exact get_fz_of (b := true) (.inr fun h => hv u hu hs (Slot.rows_keys h))
          · cases he
        · cases he
      · cases he
    · cases he
  · cases he

theorem appendE_frame {e : Ty} {by_ : Nat} {a b : AV} {c : Bool} {v : Slot} {r : Store} (he : appendE st key e by_ a b = some (.val c v r)) {k : Nat} (hk : k ≠ key) (ha : k ∉ a.keys) : r.get k = st.get k := by
  unfold appendE at he
  split at he
  · cases he
  · split at he
    · simp only [Option.some.injEq, Eff.val.injEq] at he
      obtain ⟨rfl, rfl, rfl⟩ := he
      rw [put_ne hk]
    · rename_i j
      have hj : k ≠ j := fun e => ha (by simp [AV.keys, e])
      split at he
      · cases he
      · split at he
        · simp only [Option.some.injEq, Eff.val.injEq] at he
          obtain ⟨rfl, rfl, rfl⟩ := he
          rw [put_ne hk, erase_ne hj]
        · cases he
    · rename_i j sz lo n
      have hj : k ≠ j := fun e => ha (by simp [AV.keys, e])
      split at he
      · cases he
      · split at he
        · split at he
          · simp only [Option.some.injEq, Eff.val.injEq] at he
            obtain ⟨rfl, rfl, rfl⟩ := he
            rw [put_ne hk, erase_ne hj]
          · cases he
        · cases he
    · cases he

theorem keysAt_mem {x : Operand} {sl : Slot} (h : s.ev x = some sl) {k : Nat} (hk : k ∈ sl.keys) : k ∈ keysAt s x := by unfold keysAt; rw [h]; exact hk
theorem keysAt_op {x : Operand} (hx : x ∈ o.op.operands.toList) {k : Nat} (hk : k ∈ keysAt s x) : k ∈ touch o s := opKeys_touch (by unfold opKeys; exact List.mem_flatMap.2 ⟨x, hx, hk⟩)
theorem wkeys_plain (hwr : writesB E o = true) (h1 : ∀ t x y, o.op ≠ .store t x y) (h2 : ∀ c, o.op ≠ .call c) {k : Nat} (hk : k ∈ touch o s) : k ∈ wkeys E o s := by
  unfold wkeys
  rw [hwr]
  simp only [cond_true]
  first
  | exact hk
  | (split
     · rename_i t x y ho; exact absurd ho (h1 t x y)
     · rename_i c ho; exact absurd ho (h2 c)
     · exact hk)
theorem wkeys_call (hwr : writesB E o = true) (h : ∃ c x, o.op = .call c ∧ c.callee = .value x) {k : Nat} (hk : k ∈ touch o s) : k ∈ wkeys E o s := by
  obtain ⟨c, x, ho, hc⟩ := h
  unfold wkeys
  rw [hwr, ho]
  simp only [cond_true, hc]
  exact hk
theorem wkeys_touch {k : Nat} (h : k ∈ wkeys E o s) : k ∈ touch o s := by
  unfold wkeys at h
  cases hwr : writesB E o with
  | false => rw [hwr] at h; cases h
  | true =>
    rw [hwr] at h
    simp only [cond_true] at h
    split at h
    · rename_i t x y ho
      have hx : x ∈ o.op.operands.toList := by rw [ho]; simp [Op.operands]
      have hy : y ∈ o.op.operands.toList := by rw [ho]; simp [Op.operands]
      rcases List.mem_append.1 h with h | h
      · exact keysAt_op hx h
      · split at h
        · rename_i u _
          cases hs : u.hasSl with
          | false => rw [hs] at h; cases h
          | true => rw [hs] at h; exact keysAt_op hy h
        · cases h
    · rename_i c ho
      have hargs : ∀ x ∈ c.args.toList, x ∈ o.op.operands.toList := fun x hx => by
        rw [ho]
        simp only [Op.operands, Call.operands, Array.toList_append, List.mem_append]
        exact .inr hx
      split at h
      · split at h
        · rename_i x y hxy
          have hx := hargs x (by rw [hxy]; simp)
          have hy := hargs y (by rw [hxy]; simp)
          split at h
          · split at h
            · exact keysAt_op hx h
            · exact h
          · exact h
        · exact h
      · exact h
    · exact h
theorem val_frame {c : Bool} {v : Slot} {r : Store} (he : evalOp E key o s = some (.val c v r)) {k : Nat} (hk : k ≠ key) (hw : k ∉ wkeys E o s) : r.get k = s.st.get k := by
  unfold evalOp at he
  split at he
  case h_1 x ho =>
    obtain ⟨sl, hsl, e⟩ := Option.map_eq_some_iff.1 he
    simp only [Eff.val.injEq] at e
    obtain ⟨rfl, rfl, rfl⟩ := e
    rfl
  case h_2 x ho =>
    obtain ⟨sl, hsl, e⟩ := Option.map_eq_some_iff.1 he
    simp only [Eff.val.injEq] at e
    obtain ⟨rfl, rfl, rfl⟩ := e
    rfl
  case h_3 t ho =>
    obtain ⟨cs, hz, e⟩ := Option.map_eq_some_iff.1 he
    simp only [Eff.val.injEq] at e
    obtain ⟨rfl, rfl, rfl⟩ := e
    exact put_ne hk
  case h_4 t x ho =>
    split at he
    · split at he
      · simp only [Option.some.injEq, Eff.val.injEq] at he
        obtain ⟨rfl, rfl, rfl⟩ := he
        exact put_ne hk
      · cases he
    · cases he
  case h_5 t parts ho =>
    split at he
    · split at he
      · obtain ⟨l, hl, e⟩ := Option.map_eq_some_iff.1 he
        simp only [Eff.val.injEq] at e
        obtain ⟨rfl, rfl, rfl⟩ := e
        rfl
      · cases he
    · cases he
  case h_6 t len parts ho =>
    split at he
    · rename_i e hT
      split at he
      · split at he
        · simp only [Option.some.injEq, Eff.val.injEq] at he
          obtain ⟨rfl, rfl, rfl⟩ := he
          rw [put_ne hk]
          cases hsl : e.hasSl with
          | false => rfl
          | true =>
            refine get_fz_of (b := true) (.inr fun hr => hw (wkeys_plain (by simp [writesB, ho, hT, hsl]) (fun t x y e => by rw [ho] at e; cases e) (fun c e => by rw [ho] at e; cases e) ?_))
            obtain ⟨p, hp, sl, h1, h2⟩ := partsRows_touch hr
            exact touch_mem (by rw [ho]; simp only [Op.operands, List.mem_map]; exact ⟨p, hp, rfl⟩) h1 h2
        · cases he
      · cases he
    · cases he
  case h_7 t x ho =>
    split at he
    · obtain ⟨sl, hl, e⟩ := Option.map_eq_some_iff.1 he
      simp only [Eff.val.injEq] at e
      obtain ⟨rfl, rfl, rfl⟩ := e
      rfl
    · cases he
  case h_8 t x y ho =>
    have hx : x ∈ o.op.operands.toList := by rw [ho]; simp [Op.operands]
    have hy : y ∈ o.op.operands.toList := by rw [ho]; simp [Op.operands]
    have hwr : writesB E o = true := by simp [writesB, ho]
    split at he
    · rename_i av hav
      split at he
      · rename_i sl hsl
        obtain ⟨st', hl, e⟩ := Option.map_eq_some_iff.1 he
        simp only [Eff.val.injEq] at e
        obtain ⟨rfl, rfl, rfl⟩ := e
        exact storeE_frame hl (fun h => hw (by unfold wkeys; rw [hwr, ho]; simp only [cond_true, List.mem_append]; exact .inl (keysAt_mem (one_ev hav) h))) (fun u hu hs h => hw (by unfold wkeys; rw [hwr, ho]; simp only [cond_true, hu, hs, List.mem_append]; exact .inr (keysAt_mem hsl h)))
      · cases he
    · cases he
  case h_9 x ho =>
    split at he <;> first
      | (simp only [Option.some.injEq, Eff.val.injEq] at he
         obtain ⟨rfl, rfl, rfl⟩ := he
         rfl)
      | cases he
  case h_10 op t x y t' ho =>
    split at he
    · split at he
      · obtain ⟨cv, hb, e⟩ := Option.map_eq_some_iff.1 he
        simp only [Eff.val.injEq] at e
        obtain ⟨rfl, rfl, rfl⟩ := e
        rfl
      · cases he
    · cases he
  case h_11 op t x ho =>
    split at he
    · obtain ⟨b, hb, e⟩ := Option.map_eq_some_iff.1 he
      simp only [Eff.val.injEq] at e
      obtain ⟨rfl, rfl, rfl⟩ := e
      rfl
    · obtain ⟨b, hb, e⟩ := Option.map_eq_some_iff.1 he
      simp only [Eff.val.injEq] at e
      obtain ⟨rfl, rfl, rfl⟩ := e
      rfl
    · obtain ⟨b, hb, e⟩ := Option.map_eq_some_iff.1 he
      simp only [Eff.val.injEq] at e
      obtain ⟨rfl, rfl, rfl⟩ := e
      rfl
    · cases he
  case h_12 src dst x ho =>
    split at he
    · rw [(convE_congr (st2 := s.st) he).1]
    · cases he
  case h_13 t x y ho =>
    split at he
    · split at he
      · split at he
        · split at he
          · simp only [Option.some.injEq, Eff.val.injEq] at he
            obtain ⟨rfl, rfl, rfl⟩ := he
            exact put_ne hk
          · cases he
        · cases he
      · cases he
    · cases he
  case h_14 t x lo hi mx ho =>
    split at he
    · split at he
      · split at he
        · split at he
          · split at he
            · split at he
              · rw [(sliceE_congr (st2 := s.st) (fun _ _ => rfl) he).1]
              · cases he
            · cases he
          · cases he
        · cases he
      · cases he
    · cases he
  case h_15 t x f ho =>
    split at he
    · split at he <;> first
        | (simp only [Option.some.injEq, Eff.val.injEq] at he
           obtain ⟨rfl, rfl, rfl⟩ := he
           rfl)
        | cases he
    · cases he
  case h_16 t x ix ho =>
    split at he
    · split at he
      · split at he
        · rw [(indexE_congr (st2 := s.st) (fun _ _ => rfl) he).1]
        · cases he
      · cases he
    · cases he
  case h_17 x i ho =>
    split at he
    · obtain ⟨av, ha, e⟩ := Option.map_eq_some_iff.1 he
      simp only [Eff.val.injEq] at e
      obtain ⟨rfl, rfl, rfl⟩ := e
      rfl
    · cases he
  case h_18 c ho =>
    have hargs : ∀ x ∈ c.args.toList, x ∈ o.op.operands.toList := fun x hx => by
      rw [ho]
      simp only [Op.operands, Call.operands, Array.toList_append, List.mem_append]
      exact .inr hx
    unfold callE at he
    split at he
    · split at he
      · split at he
        · split at he
          · split at he
            · obtain ⟨n, hn, e⟩ := Option.map_eq_some_iff.1 he
              simp only [Eff.val.injEq] at e
              obtain ⟨rfl, rfl, rfl⟩ := e
              rfl
            · split at he
              · split at he
                · split at he
                  · simp only [Option.some.injEq, Eff.val.injEq] at he
                    obtain ⟨rfl, rfl, rfl⟩ := he
                    rfl
                  · cases he
                · cases he
              · cases he
          · cases he
        · cases he
      · cases he
    · rename_i hc
      have hwr : writesB E o = true := by simp [writesB, ho, hc]
      split at he
      · rename_i x y hx
        have hxo := hargs x (by rw [hx]; simp)
        have hyo := hargs y (by rw [hx]; simp)
        split at he
        · rename_i av hav
          split at he
          · rename_i bv hbv
            split at he
            · rename_i T T' hTT
              split at he
              · rename_i e0 hty
                split at he
                · split at he
                  · exact appendE_frame he hk (fun h => hw (by unfold wkeys; rw [hwr, ho]; simp only [cond_true, hc, hx, hTT, hty]; exact keysAt_mem (one_ev hav) h))
                  · cases he
                · cases he
              · cases he
            · cases he
          · cases he
        · cases he
      · cases he
    · split at he
      · split at he
        · split at he
          · simp only [Option.some.injEq, Eff.val.injEq] at he
            obtain ⟨rfl, rfl, rfl⟩ := he
            rfl
          · cases he
        · cases he
      · cases he
    · split at he
      · split at he
        · split at he
          · simp only [Option.some.injEq, Eff.val.injEq] at he
            obtain ⟨rfl, rfl, rfl⟩ := he
            rfl
          · cases he
        · cases he
      · cases he
    · rename_i hc
      have hwr : writesB E o = true := by simp [writesB, ho, hc]
      have hw' : k ∉ touch o s := fun h => hw (by unfold wkeys; rw [hwr, ho]; simp only [cond_true, hc]; exact h)
      split at he
      · rename_i x y hx
        have hxo := hargs x (by rw [hx]; simp)
        split at he
        · rename_i k0 hav
          split at he
          · split at he
            · split at he
              · split at he
                · split at he
                  · simp only [Option.some.injEq, Eff.val.injEq] at he
                    obtain ⟨rfl, rfl, rfl⟩ := he
                    exact put_ne fun e => hw' (touch_mem hxo (one_ev hav) (by simp [Slot.keys, AV.keys, e]))
                  · cases he
                · cases he
              · cases he
            · cases he
          · cases he
        · cases he
      · cases he
    · cases he
  case h_19 fn first captured ho =>
    split at he
    · split at he
      · split at he
        · simp only [Option.some.injEq, Eff.val.injEq] at he
          obtain ⟨rfl, rfl, rfl⟩ := he
          rfl
        · cases he
      · cases he
    · cases he
  case h_20 t r0 ho =>
    split at he
    · split at he
      · simp only [Option.some.injEq, Eff.val.injEq] at he
        obtain ⟨rfl, rfl, rfl⟩ := he
        exact put_ne hk
      · cases he
    · cases he
  case h_21 t x ix cok ho =>
    split at he
    · split at he
      · obtain ⟨v1, hl, e⟩ := Option.map_eq_some_iff.1 he
        simp only [Eff.val.injEq] at e
        obtain ⟨rfl, rfl, rfl⟩ := e
        rfl
      · cases he
    · cases he
  case h_22 t x ix y ho =>
    have hw' : k ∉ touch o s := fun h => hw (wkeys_plain (by simp [writesB, ho]) (fun t x y e => by rw [ho] at e; cases e) (fun c e => by rw [ho] at e; cases e) h)
    have hx : x ∈ o.op.operands.toList := by rw [ho]; simp [Op.operands]
    have hy : y ∈ o.op.operands.toList := by rw [ho]; simp [Op.operands]
    split at he
    · rename_i av hav
      split at he
      · rename_i sl hsl
        split at he
        · rename_i vy hvy
          obtain ⟨r1, hl, e⟩ := Option.map_eq_some_iff.1 he
          simp only [Eff.val.injEq] at e
          obtain ⟨rfl, rfl, rfl⟩ := e
          unfold mapUpdateE at hl
          split at hl
          · rename_i k0
            split at hl
            · split at hl
              · split at hl
                · split at hl
                  · rename_i kt vt _ _ _ _ _ _ _ _
                    injection hl with hl
                    subst hl
                    rw [put_ne fun e => hw' (touch_mem hx (one_ev hav) (by simp [Slot.keys, AV.keys, e]))]
                    show (fz s.st _ _).get k = _
                    exact get_fz_of (.inr fun hr => hw' (touch_mem hy hvy (Slot.rows_keys hr)))
                  · cases hl
                · cases hl
              · cases hl
            · cases hl
          · cases hl
        · cases he
      · cases he
    · cases he
  case h_23 => cases he

/-! ### Steps -/
theorem capsSlots_keys : ∀ {caps : List Nat} {l : List Slot}, capsSlots st caps = some l → l.flatMap Slot.keys = caps
  | [], l, h => by
    simp only [capsSlots, Option.some.injEq] at h
    subst h
    rfl
  | k :: r, l, h => by
    simp only [capsSlots] at h
    split at h
    · split at h
      · rename_i m hm
        injection h with h
        subst h
        simp only [List.flatMap_cons, Slot.keys, AV.keys, capsSlots_keys hm, List.cons_append, List.nil_append]
      · cases h
    · cases h
theorem capsSlots_congr : ∀ {caps : List Nat}, (∀ k ∈ caps, st1.get k = st2.get k) → capsSlots st2 caps = capsSlots st1 caps
  | [], _ => rfl
  | k :: r, h => by
    simp only [capsSlots]
    rw [h k (by simp), capsSlots_congr (caps := r) fun j hj => h j (by simp [hj])]
theorem extOf_ext {X : Nat → List Slot → Store → Option ExtR} {as : List Slot} (hx : extOf E o s = some (X, as)) : (∃ f, E.ext f = some X) ∧ writesB E o = true := by
  unfold extOf at hx
  split at hx
  · rename_i c ho
    split at hx
    · rename_i x hc
      split at hx
      · rename_i f caps hxf
        split at hx
        · rename_i X' hX'
          split at hx
          · split at hx
            · injection hx with hx
              injection hx with h1 h2
              subst h1
              refine ⟨⟨f, hX'⟩, ?_⟩
              unfold writesB
              rw [ho]
              simp only [hc]
              split
              · rename_i heq; cases heq
              · rename_i heq; cases heq
              · rename_i heq; cases heq
              · rename_i f' heq
                injection heq with heq
                subst heq
                simp only [St.ev, Option.some.injEq, Slot.one.injEq, AV.fn.injEq] at hxf
                rw [hxf.1, hX']
              · rfl
            · cases hx
          · cases hx
        · cases hx
      · cases hx
    · cases hx
  · cases hx
theorem extOf_call {X : Nat → List Slot → Store → Option ExtR} {as : List Slot} (hx : extOf E o s = some (X, as)) : ∃ c x, o.op = .call c ∧ c.callee = .value x := by
  unfold extOf at hx
  split at hx
  · rename_i c ho
    split at hx
    · rename_i x hc
      exact ⟨c, x, ho, hc⟩
    · cases hx
  · cases hx
/-- What an operation with a contract over slots touches. -/
theorem ext_touch {X : Nat → List Slot → Store → Option ExtR} {as : List Slot} (hx : extOf E o s = some (X, as)) {k : Nat} (hk : k ∈ reach s.st 3 (as.flatMap Slot.keys)) : k ∈ touch o s := by
  unfold extOf at hx
  split at hx
  · rename_i c ho
    split at hx
    · rename_i x hc
      split at hx
      · rename_i f caps hxf
        split at hx
        · split at hx
          · rename_i as' has
            split at hx
            · rename_i l hl
              injection hx with hx
              injection hx with h1 h2
              subst h1 h2
              have hcall : isCall o = true := by unfold isCall; rw [ho]; simp only [hc]
              unfold touch
              rw [hcall]
              refine reach_mono (fun j hj => ?_) hk
              rw [List.flatMap_append, List.mem_append] at hj
              unfold opKeys
              rcases hj with hj | hj
              · obtain ⟨sl, h1, h2⟩ := List.mem_flatMap.1 hj
                obtain ⟨z, h3, h4⟩ := evs_mem has sl h1
                refine List.mem_flatMap.2 ⟨z, ?_, by rw [h4]; exact h2⟩
                rw [ho]
                simp only [Op.operands, Call.operands, Array.toList_append, List.mem_append]
                exact .inr h3
              · rw [capsSlots_keys hl] at hj
                refine List.mem_flatMap.2 ⟨x, ?_, by rw [hxf]; exact hj⟩
                rw [ho]
                simp [Op.operands, Call.operands, hc]
            · cases hx
          · cases hx
        · cases hx
      · cases hx
    · cases hx
  · cases hx
theorem extOf_congr (h : Same o s1 s2) : extOf E o s2 = extOf E o s1 := by
  unfold extOf
  split
  · rename_i c ho
    have hm : ∀ x ∈ c.args.toList, x ∈ o.op.operands.toList := fun x hx => by
      rw [ho]
      simp only [Op.operands, Call.operands, Array.toList_append, List.mem_append]
      exact .inr hx
    split
    · rename_i x hc
      have hxo : x ∈ o.op.operands.toList := by rw [ho]; simp [Op.operands, Call.operands, hc]
      rw [h.ev x hxo, evs_congr fun z hz => h.ev z (hm z hz)]
      cases hev : s1.ev x with
      | none => rfl
      | some sl =>
        cases sl with
        | one av =>
          cases av with
          | fn f caps => simp only [capsSlots_congr (caps := caps) (h.keys hxo hev)]
          | _ => rfl
        | _ => rfl
    · rfl
  · rfl
theorem stepD_congr (okx : ∀ f X, E.ext f = some X → ExtLocal X) (h : Same o s1 s2) {v : Slot} {r : Store} (he : stepD E key o s1 = some (v, r)) : ∃ r', stepD E key o s2 = some (v, r') ∧ ∀ k, s1.st.get k = s2.st.get k → r.get k = r'.get k := by
  unfold stepD at he ⊢
  rw [extOf_congr h]
  split at he
  · rename_i X as hx
    obtain ⟨D, d, out, hX, he⟩ := extGo_some he
    obtain ⟨f0, hf0⟩ := (extOf_ext hx).1
    obtain ⟨R', d', h1, h2, h3, h4⟩ := (okx _ _ hf0).congr key as s1.st s2.st _ d hX rfl fun k hk => h.st k (ext_touch hx hk)
    rw [show (ExtR.out ⟨D, some d, out⟩ d) = out d from rfl, he] at h3
    refine ⟨(R'.out d').2, (extGo_of (D := R'.D) (val := R'.val) (out := R'.out) (d := d') h1 h2).trans (congrArg some (Prod.ext h3 rfl)), fun k hk => ?_⟩
    have := h4 k hk
    rw [show (ExtR.out ⟨D, some d, out⟩ d) = out d from rfl, he] at this
    exact this
  split at he
  · rename_i c x y hkd
    have ho := kind_pick hkd
    have hm : ∀ z, z = c ∨ z = x ∨ z = y → z ∈ o.op.operands.toList := fun z hz => by
      rw [ho]; simp only [Op.operands]; rcases hz with rfl | rfl | rfl <;> simp
    have hp : pickV c x y s2 = pickV c x y s1 := by
      unfold pickV
      rw [h.bool (hm c (.inl rfl)), h.ev x (hm x (.inr (.inl rfl))), h.ev y (hm y (.inr (.inr rfl)))]
    simp only [hp]
    split at he
    · simp only [Option.some.injEq, Prod.mk.injEq] at he
      obtain ⟨rfl, rfl⟩ := he
      exact ⟨_, rfl, fun k h => h⟩
    · cases he
  · rename_i f args hkd
    obtain ⟨c, ho, hc, rfl⟩ := kind_call hkd
    have hm : ∀ x ∈ c.args.toList, x ∈ o.op.operands.toList := fun x hx => by
      rw [ho]
      simp only [Op.operands, Call.operands, Array.toList_append, List.mem_append]
      exact .inr hx
    split at he
    · rename_i sp x st' hcv
      split at he
      · rename_i r0 hr
        simp only [Option.some.injEq, Prod.mk.injEq] at he
        obtain ⟨rfl, rfl⟩ := he
        unfold callV at hcv ⊢
        split at hcv
        · rename_i sp' hsp
          split at hcv
          · rename_i as has
            have hkeys : ∀ k ∈ as.flatMap Slot.keys, s1.st.get k = s2.st.get k := fun k hk => by
              obtain ⟨sl, h1, h2⟩ := List.mem_flatMap.1 hk
              obtain ⟨z, h3, h4⟩ := evs_mem has sl h1
              exact h.keys (hm z h3) h4 k h2
            split at hcv
            · rename_i x' hx
              split at hcv
              · rename_i hf
                simp only [Option.some.injEq, Sigma.mk.injEq] at hcv
                obtain ⟨rfl, hcv⟩ := hcv
                have hcv := eq_of_heq hcv
                simp only [Prod.mk.injEq] at hcv
                obtain ⟨rfl, rfl⟩ := hcv
                rw [args_congr hkeys] at hx
                refine ⟨resStore sp'.outs r0 key (fz s2.st (outsHold sp'.outs) (as.flatMap Slot.rows)), ?_, fun k h => resStore_pw _ _ _ (fz_pw (b := outsHold sp'.outs) h)⟩
                simp only [hsp, evs_congr fun z hz => h.ev z (hm z hz), has, hx, if_pos hf, hr]
                rfl
              · cases hcv
            · cases hcv
          · cases hcv
        · cases hcv
      · cases he
    · cases he
  · split at he
    · rename_i c v' st' hev
      obtain ⟨r', h1, h2⟩ := val_congr h hev
      split at he
      · rename_i hc
        simp only [Option.some.injEq, Prod.mk.injEq] at he
        obtain ⟨rfl, rfl⟩ := he
        exact ⟨r', by simp only [h1, if_pos hc], h2⟩
      · cases he
    · cases he

theorem stepD_frame (okx : ∀ f X, E.ext f = some X → ExtLocal X) {v : Slot} {r : Store} (he : stepD E key o s = some (v, r)) {k : Nat} (hk : k < key ∨ key + 4 ≤ k) (hw : k ∉ wkeys E o s) : r.get k = s.st.get k := by
  unfold stepD at he
  split at he
  · rename_i X as hx
    obtain ⟨D, d, out, hX, he⟩ := extGo_some he
    obtain ⟨f0, hf0⟩ := (extOf_ext hx).1
    have := (okx _ _ hf0).frame key as s.st _ d k hX rfl hk fun hr => hw (wkeys_call (extOf_ext hx).2 (extOf_call hx) (ext_touch hx hr))
    rw [show (ExtR.out ⟨D, some d, out⟩ d) = out d from rfl, he] at this
    exact this
  split at he
  · split at he
    · simp only [Option.some.injEq, Prod.mk.injEq] at he
      obtain ⟨rfl, rfl⟩ := he
      rfl
    · cases he
  · rename_i f args hkd
    obtain ⟨c, ho, hc, rfl⟩ := kind_call hkd
    have hm : ∀ x ∈ c.args.toList, x ∈ o.op.operands.toList := fun x hx => by
      rw [ho]
      simp only [Op.operands, Call.operands, Array.toList_append, List.mem_append]
      exact .inr hx
    split at he
    · rename_i sp x st' hcv
      split at he
      · rename_i r0 hr
        simp only [Option.some.injEq, Prod.mk.injEq] at he
        obtain ⟨rfl, rfl⟩ := he
        unfold callV at hcv
        split at hcv
        · rename_i sp' hsp
          split at hcv
          · rename_i as has
            split at hcv
            · rename_i x' hx
              split at hcv
              · rename_i hf
                simp only [Option.some.injEq, Sigma.mk.injEq] at hcv
                obtain ⟨rfl, hcv⟩ := hcv
                have hcv := eq_of_heq hcv
                simp only [Prod.mk.injEq] at hcv
                obtain ⟨rfl, rfl⟩ := hcv
                rw [get_resStore, if_neg (by omega)]
                cases ht : outsHold sp'.outs with
                | false => rfl
                | true =>
                  refine get_fz_of (b := true) (.inr fun hr => hw (wkeys_call (by unfold writesB; rw [ho]; simp only [hc, hsp, ht]; cases E.ext f <;> rfl) ⟨c, _, ho, hc⟩ ?_))
                  obtain ⟨sl, h1, h2⟩ := List.mem_flatMap.1 hr
                  obtain ⟨z, h3, h4⟩ := evs_mem has sl h1
                  exact touch_mem (hm z h3) h4 (Slot.rows_keys h2)
              · cases hcv
            · cases hcv
          · cases hcv
        · cases hcv
      · cases he
    · cases he
  · split at he
    · rename_i c v' st' hev
      split at he
      · simp only [Option.some.injEq, Prod.mk.injEq] at he
        obtain ⟨rfl, rfl⟩ := he
        exact val_frame hev (by omega) hw
      · cases he
    · cases he

theorem ev_congr {x : Operand} (h : ∀ t ∈ tmpOf x, s2.tmps[t]? = s1.tmps[t]?) : s2.ev x = s1.ev x := by
  cases x with
  | tmp t => exact h t (by simp [tmpOf])
  | _ => rfl

theorem stepG_congr (okx : ∀ f X, E.ext f = some X → ExtLocal X) {ops : Array Oper} (ht : ∀ t ∈ looks ops o, s2.tmps[t]? = s1.tmps[t]?) (hst : ∀ k ∈ touch o s1, s1.st.get k = s2.st.get k) {v : Slot} {r : Store} (he : stepG E ops key o s1 = some (v, r)) :
    ∃ r', stepG E ops key o s2 = some (v, r') ∧ ∀ k, s1.st.get k = s2.st.get k → r.get k = r'.get k := by
  have hsame : Same o s1 s2 := ⟨fun x hx => ev_congr fun t hx' => ht t (by unfold looks; exact List.mem_append.2 (.inl (List.mem_flatMap.2 ⟨x, hx, hx'⟩))), hst⟩
  have hg : guardOf ops o s2 = guardOf ops o s1 := by
    unfold guardOf
    cases hgo : o.guard with
    | none => rfl
    | some jw =>
      obtain ⟨j, want⟩ := jw
      simp only
      cases hd : (ops[j]?).bind (·.dst) with
      | none => rfl
      | some t =>
        simp only
        rw [ht t (by unfold looks; rw [hgo]; simp [hd])]
  unfold stepG at he ⊢
  simp only [hg]
  split at he
  · cases he
  · exact stepD_congr okx hsame he
  · simp only [Option.some.injEq, Prod.mk.injEq] at he
    obtain ⟨rfl, rfl⟩ := he
    exact ⟨s2.st, rfl, fun k h => h⟩
  · split at he
    · rename_i hb
      obtain ⟨r', h1, h2⟩ := stepD_congr okx hsame he
      exact ⟨r', by rw [if_pos hb]; exact h1, h2⟩
    · rename_i hb
      simp only [Option.some.injEq, Prod.mk.injEq] at he
      obtain ⟨rfl, rfl⟩ := he
      exact ⟨s2.st, by rw [if_neg hb], fun k h => h⟩

theorem stepG_frame (okx : ∀ f X, E.ext f = some X → ExtLocal X) {ops : Array Oper} {v : Slot} {r : Store} (he : stepG E ops key o s = some (v, r)) {k : Nat} (hk : k < key ∨ key + 4 ≤ k) (hw : k ∉ wkeys E o s) : r.get k = s.st.get k := by
  unfold stepG at he
  split at he
  · cases he
  · exact stepD_frame okx he hk hw
  · simp only [Option.some.injEq, Prod.mk.injEq] at he
    obtain ⟨rfl, rfl⟩ := he
    rfl
  · split at he
    · exact stepD_frame okx he hk hw
    · simp only [Option.some.injEq, Prod.mk.injEq] at he
      obtain ⟨rfl, rfl⟩ := he
      rfl
end Go.Ev
