/- Regions that draw their order: soundness. -/
import Derived.Test.YtdchhhedpipeiaaEvQ
set_option linter.unusedVariables false
set_option linter.unusedSimpArgs false
namespace Go.Ev
open Go.RowKit

variable {P : Program} {E : Env} {ops : Array Oper} {base : Nat} {s0 : St} {w0 : Base} {w : World} {S0 : Nat → Prop} {hv : Hv} {a : Act} {Q : Exit → Act → World → Prop}

theorem Rel.drew {s : St} (h : Rel w0 S0 hv s a w) : Rel w0 S0 hv s a w.drew := by
  have hs : StepOk w (All S0 hv s.st) w.drew (All S0 hv s.st) := fun b o v h1 h2 => ⟨h1, h2⟩
  exact ⟨h.st.change hs (Hv.le_refl _) (fun k o hk => .inl ⟨hk, fun _ _ _ _ => rfl⟩) h.st.inj h.st.out, h.tmps.mono fun _ _ r => r.step hs (Hv.le_refl _), h.base, h.s0, h.keep.drew, h.dfr, h.gh, h.stp.trans hs, h.kp⟩

theorem Rel.ext {s s' : St} (h : Rel w0 S0 hv s a w) (ht : s'.tmps = s.tmps) (hg : ∀ k, s'.st.get k = s.st.get k) : Rel w0 S0 hv s' a w := by
  have hown : ∀ b, Own hv s'.st b ↔ Own hv s.st b := fun b => by
    unfold Own
    simp only [hg]
  have hall : All S0 hv s'.st = All S0 hv s.st := funext fun b => propext (by unfold All; rw [hown b])
  refine ⟨⟨fun k o hk => ?_, fun k o v k' o' v' b => ?_, fun b hb => h.st.out b ((hown b).1 hb)⟩, ?_, fun b hb => h.base b ((hown b).1 hb), h.s0, h.keep, h.dfr, fun k sl hk => h.gh k sl (by rwa [hg] at hk), by rw [hall]; exact h.stp, h.kp⟩
  · rw [hg] at hk
    rw [hall]
    exact h.st.objs k o hk
  · rw [hg, hg]
    exact h.st.inj k o v k' o' v' b
  · rw [ht, hall]
    exact h.tmps

structure Inv (E : Env) (ops : Array Oper) (base : Nat) (s0 : St) (w0 : Base) (S0 : Nat → Prop) (X : Nat → Prop) (σ : St) (hv : Hv) (a : Act) (w : World) : Prop where
  rel : Rel w0 S0 hv σ a w
  key : ∀ k, Last X (fun j => Mod E ops base s0 j k) (s0.st.get k) (fun j => (textSt E ops base s0 (j + 1)).st.get k) (σ.st.get k)
  tmp : ∀ t : Nat, Last X (fun j => Dst ops j t) (s0.tmps[t]?) (fun j => (textSt E ops base s0 (j + 1)).tmps[t]?) (σ.tmps[t]?)
  fresh : ∀ k, base ≤ k → ¬ X ((k - base) / 4) → hv k = none
  len : σ.tmps.length = s0.tmps.length
  nxt : σ.next = s0.next

theorem after_st (s : St) (d : Option Tmp) (v : Slot) (st : Store) : (s.after d v st).st = st := by cases d <;> rfl
theorem opKeys_congr {o : Oper} {s1 s2 : St} (h : ∀ x ∈ o.op.operands.toList, s2.ev x = s1.ev x) : opKeys o s2 = opKeys o s1 := by
  unfold opKeys
  have key : ∀ l : List Operand, (∀ x ∈ l, s2.ev x = s1.ev x) → (l.flatMap fun x => match s2.ev x with | some sl => sl.keys | none => []) = l.flatMap fun x => match s1.ev x with | some sl => sl.keys | none => [] := by
    intro l
    induction l with
    | nil => intro _; rfl
    | cons x r ih =>
      intro h
      simp only [List.flatMap_cons]
      rw [h x (by simp), ih fun y hy => h y (by simp [hy])]
  exact key _ h

theorem touch_congr {o : Oper} {s1 s2 : St} (h : ∀ x ∈ o.op.operands.toList, s2.ev x = s1.ev x) (hst : ∀ k ∈ touch o s1, s1.st.get k = s2.st.get k) : touch o s2 = touch o s1 := by
  unfold touch at hst ⊢
  rw [opKeys_congr h]
  cases hc : isCall o
  · rfl
  · rw [hc] at hst
    exact reach_congr hst
theorem wkeys_congr {o : Oper} {s1 s2 : St} (h : ∀ x ∈ o.op.operands.toList, s2.ev x = s1.ev x) (ht : touch o s2 = touch o s1) : wkeys E o s2 = wkeys E o s1 := by
  have hk : ∀ x ∈ o.op.operands.toList, keysAt s2 x = keysAt s1 x := fun x hx => by unfold keysAt; rw [h x hx]
  unfold wkeys
  cases writesB E o with
  | false => rfl
  | true =>
    simp only [cond_true]
    split
    · rename_i t x y ho
      rw [hk x (by rw [ho]; simp [Op.operands]), hk y (by rw [ho]; simp [Op.operands])]
    · rename_i c ho
      have hargs : ∀ x ∈ c.args.toList, x ∈ o.op.operands.toList := fun x hx => by
        rw [ho]
        simp only [Op.operands, Call.operands, Array.toList_append, List.mem_append]
        exact .inr hx
      split
      · split
        · rename_i x y hxy
          split
          · split
            · rw [hk x (hargs x (by rw [hxy]; simp))]
            · exact ht
          · exact ht
        · exact ht
      · exact ht
    · exact ht
theorem Last.add {α : Type} {X : Nat → Prop} {M : Nat → Prop} {first : α} {at_ : Nat → α} {x : α} {i : Nat} (h : Last X M first at_ x) (hi : ¬ M i) : Last (fun j => X j ∨ j = i) M first at_ x := by
  rcases h with ⟨h1, h2⟩ | ⟨j, h1, h2, h3, h4⟩
  · exact .inl ⟨fun j hj hm => hj.elim (fun hj => h1 j hj hm) (fun e => hi (e ▸ hm)), h2⟩
  · exact .inr ⟨j, .inl h1, h2, fun j' hj hm => hj.elim (fun hj => h3 j' hj hm) (fun e => absurd (e ▸ hm) hi), h4⟩

theorem inv_step (ok : EnvOk w0.tr P E) (T : TextOk E ops base s0) {X : Nat → Prop} (hX : Closed ops X) {σ : St} (h : Inv E ops base s0 w0 S0 X σ hv a w) {i : Nat} {o : Oper} (ho : ops[i]? = some o) (hi : ¬ X i) (he : ∀ e ∈ edges o, X e) {K : Act → World → Prop}
    (hK : ∀ σ' hv' a' w', Inv E ops base s0 w0 S0 (fun j => X j ∨ j = i) σ' hv' a' w' → K a' w') : wpOp P ops Q i K a w := by
  have hlt := (Array.getElem?_eq_some_iff.1 ho).1
  obtain ⟨v, r, hst⟩ := T.step i o ho
  have hsucc := textSt_succ T ho hst
  have hkeq : ∀ k, (k ∈ touch o (textSt E ops base s0 i) ∨ (base + 4 * i ≤ k ∧ k < base + 4 * i + 4)) → σ.st.get k = (textSt E ops base s0 i).st.get k := fun k hk =>
    (h.key k).same (text_key T k i (by omega)) fun j hm => by
      by_cases hj : j = i
      · subst hj
        exact ⟨fun hx => absurd hx hi, fun hx => absurd hx (Nat.lt_irrefl _)⟩
      · exact key_ahead T hX ho hi he hk hm hj
  have hteq : ∀ t, (t ∈ looks ops o ∨ o.dst = some t) → σ.tmps[t]? = (textSt E ops base s0 i).tmps[t]? := fun t ht =>
    (h.tmp t).same (text_tmp T t i (by omega)) fun j hm => by
      by_cases hj : j = i
      · subst hj
        exact ⟨fun hx => absurd hx hi, fun hx => absurd hx (Nat.lt_irrefl _)⟩
      · exact tmp_ahead T hX ho hi he ht hm hj
  obtain ⟨r', hst', hpw⟩ := stepG_congr (fun f X hX => (ok.ext f X hX).2.2) (fun t ht => hteq t (.inl ht)) (fun k hk => (hkeq k (.inl hk)).symm) hst
  have hev : ∀ x ∈ o.op.operands.toList, σ.ev x = (textSt E ops base s0 i).ev x := fun x hx => ev_congr fun t ht => hteq t (.inl (by unfold looks; exact List.mem_append.2 (.inl (List.mem_flatMap.2 ⟨x, hx, ht⟩))))
  have htouch := touch_congr hev fun k hk => (hkeq k (.inl hk)).symm
  have hwk : wkeys E o σ = wkeys E o (textSt E ops base s0 i) := wkeys_congr hev htouch
  unfold wpOp
  rw [ho]
  refine stepG_sound ok h.rel (fun j hj => h.fresh _ (by omega) (by rw [show (base + 4 * i + j - base) / 4 = i by omega]; exact hi)) hst' fun hv' a' w' hrel hon => hK _ hv' a' w' ⟨hrel, fun k => ?_, fun t => ?_, fun k hk hn => ?_, ?_, (after_next _ _ _).trans h.nxt⟩
  · by_cases hm : Mod E ops base s0 i k
    · have htk : k ∈ touch o (textSt E ops base s0 i) ∨ (base + 4 * i ≤ k ∧ k < base + 4 * i + 4) := by
        obtain ⟨p, hp, hm⟩ := hm
        rw [ho] at hp
        injection hp with hp
        subst hp
        exact hm.imp wkeys_touch id
      refine .inr ⟨i, .inr rfl, hm, fun j' hj hm' => ?_, ?_⟩
      · rcases hj with hj | rfl
        · by_cases hne : j' = i
          · omega
          · have := (key_ahead T hX ho hi he htk hm' hne).1 hj
            omega
        · exact Nat.le_refl _
      · show ((σ.after o.dst v r').st).get k = (textSt E ops base s0 (i + 1)).st.get k
        rw [hsucc, after_st, after_st]
        exact (hpw k (hkeq k htk).symm).symm
    · have hsame : ((σ.after o.dst v r').st).get k = σ.st.get k := by
        rw [after_st]
        refine stepG_frame (fun f X hX => (ok.ext f X hX).2.2) hst' ?_ fun ht => hm ⟨o, ho, .inl (hwk ▸ ht)⟩
        by_cases h1 : k < base + 4 * i
        · exact .inl h1
        · by_cases h2 : base + 4 * i + 4 ≤ k
          · exact .inr h2
          · exact absurd ⟨o, ho, .inr ⟨by omega, by omega⟩⟩ hm
      rw [hsame]
      exact (h.key k).add hm
  · by_cases hm : Dst ops i t
    · have hd : o.dst = some t := by
        obtain ⟨p, hp, hm⟩ := hm
        rw [ho] at hp
        injection hp with hp
        exact hp ▸ hm
      refine .inr ⟨i, .inr rfl, hm, fun j' hj hm' => ?_, ?_⟩
      · rcases hj with hj | rfl
        · by_cases hne : j' = i
          · omega
          · have := (tmp_ahead T hX ho hi he (.inr hd) hm' hne).1 hj
            omega
        · exact Nat.le_refl _
      · show (σ.after o.dst v r').tmps[t]? = (textSt E ops base s0 (i + 1)).tmps[t]?
        rw [hsucc, after_tmps, after_tmps, hd]
        simp only
        have hl1 := h.len
        have hl2 := text_len T i
        by_cases hlt2 : t < s0.tmps.length
        · rw [List.getElem?_set_self (by omega), List.getElem?_set_self (by omega)]
        · rw [List.getElem?_eq_none (by simp; omega), List.getElem?_eq_none (by simp; omega)]
    · have hsame : (σ.after o.dst v r').tmps[t]? = σ.tmps[t]? := by
        rw [after_tmps]
        cases hd : o.dst with
        | none => rfl
        | some d => exact List.getElem?_set_ne fun e => hm ⟨o, ho, by rw [hd, e]⟩
      rw [hsame]
      exact (h.tmp t).add hm
  · rw [hon k (by
      by_cases h1 : k < base + 4 * i
      · exact .inl h1
      · by_cases h2 : base + 4 * i + 4 ≤ k
        · exact .inr h2
        · exact absurd (.inr (by omega)) hn)]
    exact h.fresh k hk fun hx => hn (.inl hx)
  · rw [after_tmps]
    cases o.dst with
    | none => exact h.len
    | some d => simpa using h.len

theorem draw_sound (ok : EnvOk w0.tr P E) (hmix : P.follows .mixedOrders = true) (T : TextOk E ops base s0) (h : Rel w0 S0 hv s0 a w) (hf : ∀ j, base ≤ j → hv j = none) {id : Nat}
    (hQ : ∀ hv' a' w', Rel w0 S0 hv' (textSt E ops base s0 ops.size) a' w' → (∀ j, base + 4 * ops.size ≤ j → hv' j = none) → Q .normal a' w') : (Code.region id ops true).wp P Q a w := by
  refine wp_region_any hmix ?_
  have key : ∀ (fuel : Nat) (listed : Array Bool) (σ : St) (hv : Hv) (a : Act) (w : World), listed.size = ops.size → Inv E ops base s0 w0 S0 (fun j => listed.getD j false = true) σ hv a w → Closed ops (fun j => listed.getD j false = true) →
      ((List.range ops.size).filter fun i => !listed.getD i true).length = fuel → wpAny P .any ops Q fuel listed a w := by
    intro fuel
    -- at the end
    have hend : ∀ (listed : Array Bool) (σ : St) (hv : Hv) (a : Act) (w : World), listed.size = ops.size → Inv E ops base s0 w0 S0 (fun j => listed.getD j false = true) σ hv a w → (∀ i, i < ops.size → listed.getD i false = true) → Q .normal a w := by
      intro listed σ hv a w hsz hI hall
      refine hQ hv a w (hI.rel.ext ?_ fun k => ?_) fun j hj => hI.fresh j (by omega) fun hx => ?_
      · apply List.ext_getElem?
        intro t
        exact ((hI.tmp t).same (text_tmp T t ops.size (Nat.le_refl _)) fun j hm => by
          obtain ⟨p, hp, _⟩ := hm
          have := (Array.getElem?_eq_some_iff.1 hp).1
          exact ⟨fun _ => this, fun _ => hall j this⟩).symm
      · exact ((hI.key k).same (text_key T k ops.size (Nat.le_refl _)) fun j hm => by
          obtain ⟨p, hp, _⟩ := hm
          have := (Array.getElem?_eq_some_iff.1 hp).1
          exact ⟨fun _ => this, fun _ => hall j this⟩).symm
      · have hlt : (j - base) / 4 < listed.size := by
          rcases Nat.lt_or_ge ((j - base) / 4) listed.size with h' | h'
          · exact h'
          · simp [Array.getD_eq_getD_getElem?, Array.getElem?_eq_none h'] at hx
        omega
    -- what is ready
    have hready : ∀ (listed : Array Bool) (i : Nat), i ∈ Region.ready .any ops listed → ∃ o, ops[i]? = some o ∧ listed.getD i true = false ∧ ∀ e ∈ edges o, listed.getD e false = true := by
      intro listed i hi
      simp only [Region.ready, List.mem_filter, List.mem_range, Bool.and_eq_true, Bool.not_eq_true'] at hi
      obtain ⟨h1, h2, h3⟩ := hi
      refine ⟨ops[i], Array.getElem?_eq_getElem h1, h2, fun e he => ?_⟩
      simp only [Array.getElem?_eq_getElem h1, Option.map_some, Option.getD_some, Array.all_eq_true'] at h3
      simp only [edges, List.mem_map, List.mem_filter] at he
      obtain ⟨g, ⟨g1, g2⟩, rfl⟩ := he
      have := h3 g (Array.mem_toList_iff.1 g1)
      simpa [g2] using this
    have hnone : ∀ (listed : Array Bool), listed.size = ops.size → Region.ready .any ops listed = [] → ∀ i, i < ops.size → listed.getD i false = true := by
      intro listed hsz hr i
      induction i using Nat.strongRecOn with
      | _ i ih =>
        intro hi
        by_cases hl : listed.getD i false = true
        · exact hl
        · exfalso
          have hmem : i ∈ Region.ready .any ops listed := by
            simp only [Region.ready, List.mem_filter, List.mem_range, Bool.and_eq_true, Bool.not_eq_true']
            refine ⟨hi, ?_, ?_⟩
            · have hb : i < listed.size := by omega
              simp [Array.getD_eq_getD_getElem?, Array.getElem?_eq_getElem hb] at hl ⊢
              exact hl
            · simp only [Array.getElem?_eq_getElem hi, Option.map_some, Option.getD_some, Array.all_eq_true']
              intro e he
              cases hb : Region.binds .any e with
              | false => simp
              | true =>
                obtain ⟨a1, _, _⟩ := row_facts T (Array.getElem?_eq_getElem hi)
                have hm : e.on ∈ edges ops[i] := by
                  simp only [edges, List.mem_map, List.mem_filter]
                  exact ⟨e, ⟨Array.mem_toList_iff.2 he, hb⟩, rfl⟩
                have hlt : e.on < i := a1 _ (befEdges_mem.2 ⟨_, hm, .inl rfl⟩)
                simp only [Bool.not_true, Bool.false_or]
                exact ih _ hlt (by omega)
          rw [hr] at hmem
          cases hmem
    induction fuel with
    | zero =>
      intro listed σ hv a w hsz hI hX hc
      have hall : ∀ i, i < ops.size → listed.getD i false = true := fun i hi => by
        have hb : i < listed.size := by omega
        have hnil := List.eq_nil_of_length_eq_zero hc
        have : i ∉ (List.range ops.size).filter fun i => !listed.getD i true := by rw [hnil]; exact List.not_mem_nil
        simp [Array.getD_eq_getD_getElem?, Array.getElem?_eq_getElem hb, hi] at this ⊢
        exact this
      refine ⟨?_, hend listed σ hv a w hsz hI hall⟩
      cases hr : Region.ready .any ops listed with
      | nil => rfl
      | cons i r =>
        obtain ⟨o, h1, h2, _⟩ := hready listed i (by rw [hr]; simp)
        have hlt := (Array.getElem?_eq_some_iff.1 h1).1
        have hb : i < listed.size := by omega
        have := hall i hlt
        simp [Array.getD_eq_getD_getElem?, Array.getElem?_eq_getElem hb] at this h2
        rw [this] at h2
        cases h2
    | succ fuel ih =>
      intro listed σ hv a w hsz hI hX hc
      refine ⟨fun hr => hend listed σ hv a w hsz hI (hnone listed hsz hr), fun i hi => ?_⟩
      obtain ⟨o, h1, h2, h3⟩ := hready listed i hi
      have hlt := (Array.getElem?_eq_some_iff.1 h1).1
      have hb : i < listed.size := by omega
      have hX' : ∀ j, (listed.setIfInBounds i true).getD j false = true ↔ (listed.getD j false = true ∨ j = i) := fun j => by
        by_cases hj : i = j
        · subst hj
          simp [Array.getD_eq_getD_getElem?, Array.getElem?_setIfInBounds_self_of_lt hb]
        · simp only [Array.getD_eq_getD_getElem?, Array.getElem?_setIfInBounds_ne hj]
          exact ⟨.inl, fun h => h.resolve_right (Ne.symm hj)⟩
      have hXeq : (fun j => (listed.setIfInBounds i true).getD j false = true) = fun j => listed.getD j false = true ∨ j = i := funext fun j => propext (hX' j)
      refine inv_step ok T hX hI h1 (by simpa [Array.getD_eq_getD_getElem?, Array.getElem?_eq_getElem hb] using h2) h3 fun σ' hv' a' w' hI' => ?_
      refine ih (listed.setIfInBounds i true) σ' hv' a' w' (by simp [hsz]) (by rw [hXeq]; exact hI') (by
        rw [hXeq]
        intro j p hp hj e he
        rcases hj with hj | rfl
        · exact .inl (hX j p hp hj e he)
        · rw [h1] at hp
          injection hp with hp
          subst hp
          exact .inl (h3 e he)) ?_
      -- one fewer
      have hf : ((List.range ops.size).filter fun j => !(listed.setIfInBounds i true).getD j true) = ((List.range ops.size).filter fun j => !listed.getD j true).filter fun j => j != i := by
        rw [List.filter_filter]
        apply List.filter_congr
        intro j hj
        have hjl : j < listed.size := by have := List.mem_range.1 hj; omega
        by_cases hji : i = j
        · subst hji
          simp [Array.getD_eq_getD_getElem?, Array.getElem?_setIfInBounds_self_of_lt hb]
        · have : (j != i) = true := by simpa using Ne.symm hji
          simp only [Array.getD_eq_getD_getElem?, Array.getElem?_setIfInBounds_ne hji, this, Bool.true_and]
      rw [hf, ← List.Nodup.erase_eq_filter ((List.nodup_range).filter _), List.length_erase_of_mem]
      · omega
      · simp only [List.mem_filter, List.mem_range]
        exact ⟨hlt, by simp [h2]⟩
  have hcell : ∀ j, (Array.replicate ops.size false).getD j false = true ↔ False := fun j => by
    by_cases hj : j < ops.size
    · simp [Array.getD_eq_getD_getElem?, hj]
    · simp [Array.getD_eq_getD_getElem?, hj]
  have hXf : (fun j => (Array.replicate ops.size false).getD j false = true) = fun _ => False := funext fun j => propext (hcell j)
  refine key ops.size _ s0 hv a w.drew (by simp) ⟨h.drew, fun k => .inl ⟨fun j hj => ((hcell j).1 hj).elim, rfl⟩, fun t => .inl ⟨fun j hj => ((hcell j).1 hj).elim, rfl⟩, fun k hk _ => hf k hk, rfl, rfl⟩ (by
    rw [hXf]
    intro j o _ hj
    exact hj.elim) ?_
  rw [List.filter_eq_self.2]
  · simp
  · intro i hi
    have := List.mem_range.1 hi
    simp [Array.getD_eq_getD_getElem?, this]
end Go.Ev
