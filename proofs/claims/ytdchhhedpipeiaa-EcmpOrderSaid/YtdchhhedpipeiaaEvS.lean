/- Points at which ways meet. -/
import Derived.Test.YtdchhhedpipeiaaEvR
set_option linter.unusedVariables false
set_option linter.unusedSimpArgs false
namespace Go.Ev
open Go.RowKit

variable {P : Program} {E : Env} {w0 : Base} {w : World} {S0 : Nat → Prop} {hv : Hv} {s : St} {a : Act}

theorem idxOf_spec : ∀ {k : Nat} {σ : List Nat} {i j : Nat}, idxOf k σ i = some j → ∃ d, j = i + d ∧ σ[d]? = some k
  | k, [], i, j, h => by cases h
  | k, q :: r, i, j, h => by
    simp only [idxOf] at h
    split at h
    · rename_i e
      injection h with h
      exact ⟨0, by omega, by simp [e]⟩
    · obtain ⟨d, h1, h2⟩ := idxOf_spec h
      exact ⟨d + 1, by omega, by simpa using h2⟩
theorem idxOf_get {k : Nat} {σ : List Nat} {j : Nat} (h : idxOf k σ 0 = some j) : σ[j]? = some k := by
  obtain ⟨d, h1, h2⟩ := idxOf_spec h
  rw [h1, Nat.zero_add]
  exact h2

def renHv (hv : Hv) (σ : List Nat) : Hv := fun i => (σ[i]?).bind hv
theorem renHv_idx {σ : List Nat} {k j : Nat} (h : idxOf k σ 0 = some j) : renHv hv σ j = hv k := by
  unfold renHv
  rw [idxOf_get h]
  rfl
theorem idxsOf_all {σ : List Nat} : ∀ {l m : List Nat} {vs : List Value}, idxsOf σ l = some m → All2 (fun k v => hv k = some v) l vs → All2 (fun k v => renHv hv σ k = some v) m vs
  | [], m, vs, h, hr => by
    simp only [idxsOf, Option.some.injEq] at h
    subst h
    cases vs <;> first | trivial | exact hr.elim
  | k :: r, m, vs, h, hr => by
    simp only [idxsOf] at h
    split at h
    · rename_i i hi
      split at h
      · rename_i l hl
        injection h with h
        subst h
        cases vs with
        | nil => exact hr.elim
        | cons v vs => exact ⟨(renHv_idx hi).trans hr.1, idxsOf_all hl hr.2⟩
      · cases h
    · cases h

theorem AVRep.ren {S : Nat → Prop} (σ : List Nat) {av : AV} {v : Value} (h : AVRep w S hv av v) : AVRep w S (renHv hv σ) (av.ren σ) v := by
  cases av with
  | pure t x => exact h
  | nil => exact h
  | own k =>
    simp only [AV.ren]
    split
    · rename_i i hi
      exact ⟨(renHv_idx hi).trans h.1, h.2⟩
    · trivial
  | view k sz lo n =>
    simp only [AV.ren]
    split
    · rename_i i hi
      obtain ⟨A, len, cap, A', cap', h1, h2⟩ := h
      exact ⟨A, len, cap, A', cap', (renHv_idx hi).trans h1, h2⟩
    · trivial
  | ref k i sz off =>
    simp only [AV.ren]
    split
    · rename_i j hj
      rcases h with ⟨b, h1, h2⟩ | ⟨b, o, len, cap, h1, h2⟩
      · exact .inl ⟨b, (renHv_idx hj).trans h1, h2⟩
      · exact .inr ⟨b, o, len, cap, (renHv_idx hj).trans h1, h2⟩
    · trivial
  | cptr t x off => exact h
  | fn f caps =>
    simp only [AV.ren]
    split
    · rename_i l hl
      obtain ⟨vs, h1, h2⟩ := h
      exact ⟨vs, idxsOf_all hl h1, h2⟩
    · trivial
  | nilp => exact h
  | dead => trivial
theorem CRep.ren {S : Nat → Prop} (σ : List Nat) {av : AV} {v : Value} (h : CRep w S hv av v) : CRep w S (renHv hv σ) (av.ren σ) v := ⟨h.1.ren σ, h.2⟩
theorem All2.map_left {α β γ : Type} {R : α → β → Prop} {R' : γ → β → Prop} {f : α → γ} (h : ∀ a b, R a b → R' (f a) b) : ∀ {l : List α} {m : List β}, All2 R l m → All2 R' (l.map f) m
  | [], [], _ => trivial
  | _ :: _, _ :: _, r => ⟨h _ _ r.1, All2.map_left h r.2⟩
  | [], _ :: _, r => r.elim
  | _ :: _, [], r => r.elim
theorem SlotRep.ren {S : Nat → Prop} (σ : List Nat) {sl : Slot} {v : Value} (h : SlotRep w S hv sl v) : SlotRep w S (renHv hv σ) (sl.ren σ) v := by
  cases sl with
  | one a => exact AVRep.ren σ h
  | agg cs => obtain ⟨vs, e, hr⟩ := h; exact ⟨vs, e, hr.map_left (f := AV.ren σ) fun _ _ q => CRep.ren σ q⟩
  | tup cs => obtain ⟨vs, e, hr⟩ := h; exact ⟨vs, e, hr.map_left (f := AV.ren σ) fun _ _ q => AVRep.ren σ q⟩

theorem collect_nodup {st : Store} : ∀ (n : Nat) (todo acc : List Nat), acc.Nodup → (collect st n todo acc).Nodup
  | 0, _, _, h => h
  | n + 1, [], _, h => h
  | n + 1, k :: r, acc, h => by
    simp only [collect]
    split
    · exact collect_nodup n r acc h
    · rename_i hk
      have hk' : k ∉ acc := by simpa using hk
      have hn : (acc ++ [k]).Nodup := by
        rw [List.nodup_append]
        refine ⟨h, by simp, fun x hx y hy => ?_⟩
        rw [List.mem_singleton.1 hy]
        exact fun e => hk' (e ▸ hx)
      split
      · exact collect_nodup n r acc h
      · exact collect_nodup n _ _ hn
      · exact collect_nodup n _ _ hn
      · exact collect_nodup n _ _ hn

theorem get_renStore (st : Store) (σ : List Nat) : ∀ (l : List Nat) (i j : Nat), (renStore st σ l i).get j = if j < i then none else (l[j - i]?).bind fun k => (st.get k).map (Ob.ren σ)
  | [], i, j => by simp [renStore, Store.get]
  | k :: r, i, j => by
    simp only [renStore]
    cases hk : st.get k with
    | none =>
      simp only
      rw [get_renStore st σ r (i + 1) j]
      by_cases h1 : j < i
      · rw [if_pos h1, if_pos (by omega)]
      · rw [if_neg h1]
        by_cases h2 : j = i
        · subst h2
          rw [if_pos (by omega)]
          simp [hk]
        · rw [if_neg (by omega), show j - i = (j - (i + 1)) + 1 by omega, List.getElem?_cons_succ]
    | some o =>
      simp only [Store.get]
      by_cases h2 : i = j
      · subst h2
        simp [hk]
      · rw [if_neg h2, get_renStore st σ r (i + 1) j]
        by_cases h1 : j < i
        · rw [if_pos h1, if_pos (by omega)]
        · rw [if_neg h1, if_neg (by omega), show j - i = (j - (i + 1)) + 1 by omega, List.getElem?_cons_succ]

theorem blk_ren (σ : List Nat) (o : Ob) (v : Value) : blk (o.ren σ) v = blk o v := by
  cases o with
  | cells cs => cases v with
    | pointer a => cases a <;> rfl
    | _ => rfl
  | _ => rfl

theorem keep_rep {S : Nat → Prop} (live σ : List Nat) : ∀ (l : List Slot) (vs : List Value) (i : Nat), All2 (SlotRep w S hv) l vs → All2 (SlotRep w S (renHv hv σ)) (keepSlots live σ l i) vs
  | [], [], _, _ => trivial
  | sl :: r, v :: vs, i, h => by
    refine ⟨?_, keep_rep live σ r vs (i + 1) h.2⟩
    split
    · exact h.1.ren σ
    · exact trivial
  | [], _ :: _, _, h => h.elim
  | _ :: _, [], _, h => h.elim

theorem gc_sound (h : Rel w0 S0 hv s a w) (live : List Nat) : ∃ hv', Rel w0 S0 hv' (gc live s) a w ∧ ∀ j, (gc live s).next ≤ j → hv' j = none := by
  obtain ⟨σ, hσ⟩ : ∃ σ, collect s.st 1000 (ghostKeys s.st ++ liveKeys live s.tmps 0) [] = σ := ⟨_, rfl⟩
  have hnd : σ.Nodup := hσ ▸ collect_nodup _ _ _ List.nodup_nil
  have hgc : gc live s = { tmps := keepSlots live σ s.tmps 0, st := renStore s.st σ σ 0, next := σ.length } := by unfold gc; simp only [hσ]
  rw [hgc]
  have hget : ∀ j o, (renStore s.st σ σ 0).get j = some o → ∃ k ob, σ[j]? = some k ∧ s.st.get k = some ob ∧ o = ob.ren σ := fun j o hj => by
    rw [get_renStore, if_neg (by omega), Nat.sub_zero] at hj
    obtain ⟨k, h1, h2⟩ := Option.bind_eq_some_iff.1 hj
    obtain ⟨ob, h3, h4⟩ := Option.map_eq_some_iff.1 h2
    exact ⟨k, ob, h1, h3, h4.symm⟩
  have hown : ∀ b, Own (renHv hv σ) (renStore s.st σ σ 0) b → Own hv s.st b := by
    rintro b ⟨j, o, v, h1, h2, h3⟩
    obtain ⟨k, ob, g1, g2, rfl⟩ := hget j o h1
    unfold renHv at h2
    rw [g1] at h2
    rw [blk_ren] at h3
    exact ⟨k, ob, v, g2, h2, h3⟩
  have hs : StepOk w (All S0 hv s.st) w (All S0 (renHv hv σ) (renStore s.st σ σ 0)) := (StepOk.refl _ _).sub fun b hb => hb.imp id (hown b)
  have hle : (renHv hv σ).le (renHv hv σ) := Hv.le_refl _
  refine ⟨renHv hv σ, ⟨⟨fun j o hj => ?_, fun j o v j' o' v' b h1 h2 h3 h4 h5 h6 => ?_, fun b hb => h.st.out b (hown b hb)⟩, ?_, fun b hb => h.base b (hown b hb), h.s0, h.keep, h.dfr, fun j sl hj => by
    obtain ⟨k, ob, g1, g2, g3⟩ := hget j _ hj
    unfold renHv
    rw [g1]
    cases ob <;> cases g3
    exact h.gh k _ g2, h.stp.trans hs, h.kp⟩, fun j hj => ?_⟩
  · obtain ⟨k, ob, g1, g2, rfl⟩ := hget j o hj
    obtain ⟨v, hv1, hob⟩ := h.st.objs k ob g2
    refine ⟨v, by unfold renHv; rw [g1]; exact hv1, ?_⟩
    cases ob with
    | cells cs =>
      obtain ⟨b, vs, ty, rfl, hw, hr⟩ := hob
      exact ⟨b, vs, ty, rfl, hw, (hr.map_left (f := AV.ren σ) fun _ _ q => CRep.ren σ q).mono fun _ _ r => CRep.step hs hle r⟩
    | row e xs =>
      rcases hob with q | ⟨b, o, cap, vs, ty, rfl, q1, q2, q3, q4, q5⟩
      · exact .inl q
      · exact .inr ⟨b, o, cap, vs, ty, rfl, q1, q2, q3, q4, fun i x hx => by
          obtain ⟨es, p1, p2⟩ := q5 i x hx
          exact ⟨es, p1.step hs, p2⟩⟩
    | frow e xs => exact Rep.step (t := .sl e) hs hob
    | ghost sl =>
      obtain ⟨vs, e, hr⟩ := hob
      exact ⟨vs, e, (hr.map_left (f := Slot.ren σ) fun _ _ q => SlotRep.ren σ q).mono fun _ _ r => SlotRep.step hs hle r⟩
    | map kt vt l c =>
      obtain ⟨b, es, rfl, hw, hr⟩ := hob
      exact ⟨b, es, rfl, hw, hr.step hs⟩
  · obtain ⟨k, ob, g1, g2, rfl⟩ := hget j o h1
    obtain ⟨k', ob', g3, g4, rfl⟩ := hget j' o' h4
    unfold renHv at h2 h5
    rw [g1] at h2
    rw [g3] at h5
    rw [blk_ren] at h3 h6
    have hk := h.st.inj _ _ _ _ _ _ _ g2 h2 h3 g4 h5 h6
    subst hk
    have l1 := (List.getElem?_eq_some_iff.1 g1)
    have l2 := (List.getElem?_eq_some_iff.1 g3)
    obtain ⟨p1, q1⟩ := l1
    obtain ⟨p2, q2⟩ := l2
    rcases Nat.lt_trichotomy j j' with hlt | heq | hgt
    · exact absurd (q1.trans q2.symm) (List.pairwise_iff_getElem.1 hnd j j' p1 p2 hlt)
    · exact heq
    · exact absurd (q2.trans q1.symm) (List.pairwise_iff_getElem.1 hnd j' j p2 p1 hgt)
  · exact (keep_rep live σ _ _ 0 h.tmps).mono fun _ _ r => r.step hs hle
  · unfold renHv
    rw [List.getElem?_eq_none hj]
    rfl

theorem tmps_set_rep {S : Nat → Prop} {l : List Slot} {vs : List Value} (h : All2 (SlotRep w S hv) l vs) {i : Nat} {sl sl' : Slot} (hi : l[i]? = some sl) (hr : ∀ v, SlotRep w S hv sl v → SlotRep w S hv sl' v) : All2 (SlotRep w S hv) (l.set i sl') vs := by
  obtain ⟨v, h1, h2⟩ := h.get i sl hi
  have := h.set (hr v h2) i
  have hs : vs.set i v = vs := by
    apply List.ext_getElem?
    intro j
    by_cases hj : i = j
    · subst hj
      rw [List.getElem?_set_self (List.getElem?_eq_some_iff.1 h1).1, h1]
    · rw [List.getElem?_set_ne hj]
  rwa [hs] at this

theorem ownify_sound : ∀ (l : List (Nat × Option Ty)) (s : St) (hv : Hv), Rel w0 S0 hv s a w → (∀ j, s.next ≤ j → hv j = none) → ∃ hv', Rel w0 S0 hv' (ownify s l) a w ∧ ∀ j, (ownify s l).next ≤ j → hv' j = none
  | [], s, hv, h, hf => ⟨hv, h, hf⟩
  | (i, none) :: r, s, hv, h, hf => ownify_sound r s hv h hf
  | (i, some e) :: r, s, hv, h, hf => by
    simp only [ownify]
    split
    · rename_i hi
      -- nil
      obtain ⟨r1, r2, r3, r4⟩ := h.st.lay (hf s.next (Nat.le_refl _)) s.next (.slice none 0 0) (.row e []) (w' := w) (fun b hb => Nat.lt_of_lt_of_le (h.s0 b hb) h.keep.size) (fun b hb => by simp [blk] at hb) (fun _ _ _ => rfl) (fun _ => .inl ⟨none, rfl, rfl⟩)
      rw [erase_none (h.st.fresh (hf s.next (Nat.le_refl _)))] at r1 r2 r4
      refine ownify_sound r _ _ ⟨r1, ?_, fun b hb => ?_, h.s0, h.keep, h.dfr, (by
        have := Gh.put h.gh s.next s.next (.slice none 0 0) (ob := .row e []) rfl
        rwa [erase_none (h.st.fresh (hf s.next (Nat.le_refl _)))] at this), h.stp.trans r2, h.kp⟩ fun j hj => ?_
      · refine tmps_set_rep (h.tmps.mono fun _ _ q => q.step r2 r3) hi fun v hv' => ?_
        have hv' : v = _ := hv'
        subst hv'
        exact ⟨Hv.put_same, trivial⟩
      · rcases r4 b hb with h' | h'
        · exact h.base b h'
        · exact Nat.le_trans h.bn h'
      · rw [Hv.put_ne (by simp only at hj; omega)]
        exact hf j (by simp only at hj; omega)
    · rename_i k sz lo n hi
      split
      · rename_i hsz
        split
        · rename_i xs hxs
          have hg := wrow_get hxs
          obtain ⟨v, h1, h2⟩ := h.tmps.get i _ hi
          obtain ⟨A, len, cap, A', cap', hk, q1, q2, q3, q4, q5, rfl⟩ := h2
          subst hsz
          obtain ⟨vk, hk1, hob⟩ := h.st.objs _ _ hg
          rw [hk1] at hk
          injection hk with hk
          subst hk
          have hlen : len = xs.length := by
            rcases hob with ⟨B, h', rfl⟩ | ⟨b, off, cap1, vs, ty, h', _⟩
            · injection h' with _ h' _
            · injection h' with _ h' _
          subst hlen
          have hzl : ((xs.drop lo).take n).length = n := by simp; omega
          have hblk : ∀ b, blk (.row e ((xs.drop lo).take n)) (.slice A' n cap') = some b → ∃ off, A' = some ⟨b, off, none⟩ ∧ 0 < cap' ∧ blk (.row e xs) (.slice A xs.length cap) = some b := fun b hb => by
            have hc : 0 < cap' := by
              rcases Nat.eq_zero_or_pos cap' with h0 | h0
              · subst h0; cases A' <;> simp [blk] at hb
              · exact h0
            rcases hob with ⟨B, h', rfl⟩ | ⟨b', off, cap1, vs, ty, h', g1, _⟩
            · injection h' with _ _ h'
              omega
            · injection h' with hA _ hcc
              subst hA hcc
              have := q5 hc b' off rfl
              subst this
              simp only [blk, hc, if_true, Option.some.injEq] at hb
              subst hb
              exact ⟨_, rfl, hc, by simp [blk, g1]⟩
          obtain ⟨r1, r2, r3, r4⟩ := h.st.lay (hf s.next (Nat.le_refl _)) k (.slice A' n cap') (.row e ((xs.drop lo).take n)) (w' := w) (fun b hb => Nat.lt_of_lt_of_le (h.s0 b hb) h.keep.size)
            (fun b hb => by
              obtain ⟨_, _, _, h3⟩ := hblk b hb
              exact .inr ⟨_, _, hg, hk1, h3⟩) (fun _ _ _ => rfl) (fun hst => by
              rcases Nat.eq_zero_or_pos cap' with h0 | h0
              · refine .inl ⟨A', ?_, ?_⟩
                · rw [h0, show n = 0 by omega]
                · exact List.eq_nil_of_length_eq_zero (by rw [hzl]; omega)
              · rcases hob with ⟨B, h', rfl⟩ | ⟨b', off, cap1, vs, ty, h', g1, g2, g3, g4, g5⟩
                · injection h' with _ _ h'
                  omega
                · injection h' with hA _ hcc
                  subst hA hcc
                  have := q5 h0 b' off rfl
                  subst this
                  refine .inr ⟨b', off + lo * e.size, cap', vs, ty, by rw [hzl], h0, by rw [hzl]; omega, g3, ?_, ?_⟩
                  · have : lo * e.size + cap' * e.size = cap * e.size := by rw [← Nat.add_mul]; congr 1; omega
                    omega
                  · intro j z hz
                    have hj : j < n := by
                      have := (List.getElem?_eq_some_iff.1 hz).1
                      omega
                    rw [List.getElem?_take, if_pos hj, List.getElem?_drop] at hz
                    obtain ⟨es, p1, p2⟩ := g5 _ z hz
                    refine ⟨es, p1.step hst, fun c d hd => ?_⟩
                    have := p2 c d hd
                    rw [Nat.add_mul] at this
                    rw [← this]
                    congr 1
                    omega)
          refine ownify_sound r _ _ ⟨r1, ?_, fun b hb => ?_, h.s0, h.keep, h.dfr, Gh.put h.gh k s.next _ rfl, h.stp.trans r2, h.kp⟩ fun j hj => ?_
          · have := (h.tmps.mono fun _ _ q => SlotRep.step r2 r3 q).set (show SlotRep w _ (hv.put s.next (.slice A' n cap')) (.one (.own s.next)) (.slice A' n cap') from ⟨Hv.put_same, trivial⟩) i
            have hs : a.tmps.toList.set i (.slice A' n cap') = a.tmps.toList := by
              apply List.ext_getElem?
              intro j
              by_cases hj : i = j
              · subst hj
                rw [List.getElem?_set_self (List.getElem?_eq_some_iff.1 h1).1, h1]
              · rw [List.getElem?_set_ne hj]
            rwa [hs] at this
          · rcases r4 b hb with h' | h'
            · exact h.base b h'
            · exact Nat.le_trans h.bn h'
          · rw [Hv.put_ne (by simp only at hj; omega)]
            exact hf j (by simp only at hj; omega)
        · exact ownify_sound r s hv h hf
      · exact ownify_sound r s hv h hf
    · exact ownify_sound r s hv h hf

theorem canon_sound (h : Rel w0 S0 hv s a w) (hf : ∀ j, s.next ≤ j → hv j = none) (c : Code) : ∃ hv', Rel w0 S0 hv' (canon E c s) a w ∧ ∀ j, (canon E c s).next ≤ j → hv' j = none := by
  unfold canon
  split
  · exact ⟨hv, h, hf⟩
  · split
    · exact ⟨hv, h, hf⟩
    · obtain ⟨hv1, h1, _⟩ := ownify_sound _ s hv h hf
      exact gc_sound h1 _
end Go.Ev
