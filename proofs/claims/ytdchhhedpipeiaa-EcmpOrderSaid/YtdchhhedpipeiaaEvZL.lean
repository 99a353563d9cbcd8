/- A contract of things by reference hangs on what its slots hold, and leaves the rest. -/
import Derived.Test.YtdchhhedpipeiaaEvZZ
set_option linter.unusedVariables false
set_option linter.unusedSimpArgs false
namespace Go.Ev
variable {st st1 st2 : Store}

theorem readCell_congr {t : Ty} {k : Nat} (h : st1.get k = st2.get k) : readCell t k st1 = readCell t k st2 := by unfold readCell; rw [h]
theorem readCaps_congr : ∀ {cs : List Ty} {ks : List Nat}, (∀ k ∈ ks, st1.get k = st2.get k) → readCaps st1 cs ks = readCaps st2 cs ks
  | [], [], _ => rfl
  | [], _ :: _, _ => rfl
  | _ :: _, [], _ => rfl
  | t :: cs, k :: ks, h => by
    simp only [readCaps]
    rw [readCell_congr (t := t) (h k (by simp)), readCaps_congr (cs := cs) (ks := ks) fun j hj => h j (by simp [hj])]
theorem read_congr {k : AK} {a : Slot} (h : ∀ j ∈ a.keys, st1.get j = st2.get j) : k.read st1 a = k.read st2 a := by
  cases k with
  | pure t => rfl
  | con t => rfl
  | row e =>
    simp only [AK.read]
    unfold rdRow
    split
    · rename_i j
      rw [wrow_congr (h j (by simp [Slot.keys, AV.keys]))]
    · rfl
  | cell t =>
    simp only [AK.read]
    unfold rdCell
    split
    · rename_i j
      rw [readCell_congr (h j (by simp [Slot.keys, AV.keys]))]
    · rfl
  | fn f cs =>
    simp only [AK.read]
    unfold rdFn
    split
    · rename_i f' ks
      rw [readCaps_congr (fun j hj => h j (by simpa [Slot.keys, AV.keys] using hj))]
    · rfl
theorem readBy_congr : ∀ {ks : List AK} {as : List Slot}, (∀ j ∈ as.flatMap Slot.keys, st1.get j = st2.get j) → readBy st1 ks as = readBy st2 ks as
  | [], [], _ => rfl
  | [], _ :: _, _ => rfl
  | _ :: _, [], _ => rfl
  | k :: r, a :: as, h => by
    simp only [readBy]
    rw [read_congr (k := k) fun j hj => h j (by simp; exact .inl hj), readBy_congr (ks := r) (as := as) fun j hj => h j (by simp at hj ⊢; exact .inr hj)]

theorem read_keys {k : AK} {a : Slot} {x : k.den} {l : List Nat} (h : k.read st a = some (x, l)) : ∀ j ∈ l, j ∈ a.keys := by
  cases k with
  | pure t =>
    simp only [AK.read] at h
    unfold rdPure at h
    split at h
    · split at h
      · injection h with h
        injection h with _ h
        subst h
        intro j hj
        cases hj
      · cases h
    · cases h
  | con t =>
    simp only [AK.read] at h
    unfold rdCon at h
    split at h
    · split at h
      · injection h with h
        injection h with _ h
        subst h
        intro j hj
        cases hj
      · cases h
    · cases h
  | row e =>
    simp only [AK.read] at h
    unfold rdRow at h
    split at h
    · split at h
      · injection h with h
        injection h with _ h
        subst h
        intro j hj
        simpa [Slot.keys, AV.keys] using hj
      · cases h
    · cases h
  | cell t =>
    simp only [AK.read] at h
    unfold rdCell at h
    split at h
    · split at h
      · injection h with h
        injection h with _ h
        subst h
        intro j hj
        simpa [Slot.keys, AV.keys] using hj
      · cases h
    · cases h
  | fn f cs =>
    simp only [AK.read] at h
    unfold rdFn at h
    split at h
    · rename_i f' ks
      cases hb : Nat.beq f' f with
      | false => rw [hb] at h; cases h
      | true =>
        rw [hb] at h
        simp only [cond_true] at h
        split at h
        · injection h with h
          injection h with _ h
          subst h
          intro j hj
          simpa [Slot.keys, AV.keys] using hj
        · cases h
    · cases h
theorem readBy_keys : ∀ {ks : List AK} {as : List Slot} {x : Data ks} {l : List Nat}, readBy st ks as = some (x, l) → ∀ j ∈ l, j ∈ as.flatMap Slot.keys
  | [], [], x, l, h, j, hj => by
    simp only [readBy, Option.some.injEq, Prod.mk.injEq] at h
    obtain ⟨_, rfl⟩ := h
    cases hj
  | [], _ :: _, _, _, h, _, _ => by simp [readBy] at h
  | _ :: _, [], _, _, h, _, _ => by simp [readBy] at h
  | k :: r, a :: as, x, l, h, j, hj => by
    simp only [readBy] at h
    split at h
    · rename_i y l1 h1
      split at h
      · rename_i z l2 h2
        simp only [Option.some.injEq, Prod.mk.injEq] at h
        obtain ⟨_, rfl⟩ := h
        simp only [List.flatMap_cons, List.mem_append] at hj ⊢
        exact hj.imp (read_keys h1 j) (readBy_keys h2 j)
      · cases h
    · cases h

theorem putAll_pw {j : Nat} : ∀ (kk : List Nat) (os : List Ob) {st1 st2 : Store}, st1.get j = st2.get j → (putAll kk os st1).get j = (putAll kk os st2).get j
  | [], _, _, _, h => h
  | _ :: _, [], _, _, h => h
  | k :: kk, o :: os, _, _, h => putAll_pw kk os (put_pw h)
theorem putAll_ne {j : Nat} : ∀ (kk : List Nat) (os : List Ob) {st : Store}, j ∉ kk → (putAll kk os st).get j = st.get j
  | [], _, _, _ => rfl
  | _ :: _, [], _, _ => rfl
  | k :: kk, o :: os, st, h => by
    simp only [putAll]
    rw [putAll_ne kk os fun hj => h (List.mem_cons_of_mem _ hj), get_put, if_neg fun e => h (by simp [e])]

theorem ext_local (sp : BySpec) : ExtLocal (extBy sp) where
  congr key as st1 st2 R d hX hd hr := by
    have hk : ∀ j ∈ as.flatMap Slot.keys, st1.get j = st2.get j := fun j hj => hr j (reach_base hj)
    unfold extBy at hX ⊢
    rw [← readBy_congr (ks := sp.ks) hk]
    split at hX
    · rename_i x kk hread
      split at hX
      · rename_i hc
        injection hX with hX
        subst hX
        refine ⟨⟨OTup sp.outs × Data sp.ks, sp.F x, fun y => (slotOf (resAVs sp.outs y.1 key), resStore sp.outs y.1 key (putAll kk (obsOf sp.ks y.2) st2))⟩, d, if_pos hc, hd, rfl, fun k hk => ?_⟩
        exact resStore_pw _ _ _ (putAll_pw _ _ hk)
      · cases hX
    · cases hX
  frame key as st R d k hX hd hk hr := by
    unfold extBy at hX
    split at hX
    · rename_i x kk hread
      split at hX
      · rename_i hc
        injection hX with hX
        subst hX
        simp only [Bool.and_eq_true, Bool.not_eq_true', Nat.ble_eq] at hc
        show (resStore sp.outs d.1 key (putAll kk (obsOf sp.ks d.2) st)).get k = _
        rw [get_resStore, if_neg (by omega)]
        exact putAll_ne _ _ fun hj => hr (reach_base (readBy_keys hread k hj))
      · cases hX
    · cases hX
end Go.Ev
