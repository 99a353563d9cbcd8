/- Functions that are handed things by reference. -/
import Derived.Test.YtdchhhedpipeiaaEvU
set_option linter.unusedVariables false
set_option linter.unusedSimpArgs false
namespace Go.Ev
open Go.RowKit

variable {P : Program} {E : Env}

theorem get_storeOf : ∀ (l : List Ob) (d j : Nat), (storeOf d l).get j = if d ≤ j then l[j - d]? else none
  | [], d, j => by simp [storeOf, Store.get]
  | o :: r, d, j => by
    simp only [storeOf, Store.get]
    split
    · rename_i h
      subst h
      simp
    · rename_i h
      rw [get_storeOf r (d + 1) j]
      by_cases h1 : d + 1 ≤ j
      · rw [if_pos h1, if_pos (by omega), show j - d = (j - (d + 1)) + 1 by omega, List.getElem?_cons_succ]
      · rw [if_neg h1, if_neg (by omega)]

/-- Results in new memory lie behind the things handed over. -/
noncomputable def endStore (sp : BySpec) (r : OTup sp.outs) (x : Data sp.ks) : Store := resStore sp.outs r (keysOf sp.ks) (storeOf 0 (obsOf sp.ks x))

def By (tr : Bool) (P : Program) (f : FuncId) (sp : BySpec) : Prop :=
  ∀ x r x', sp.F x = some (r, x') → ∀ (w : World) (n : Nat) (S0 : Nat → Prop) (hv : Hv) (vals : List Value), n ≤ w.heap.size → (∀ b, S0 b → b < w.heap.size) → StRel w S0 hv (storeOf 0 (obsOf sp.ks x)) →
    All2 (SlotRep w (All S0 hv (storeOf 0 (obsOf sp.ks x))) hv) (slotsOf 0 sp.ks x) vals → (∀ b, Own hv (storeOf 0 (obsOf sp.ks x)) b → n ≤ b) →
    Calls P f vals.toArray w fun e w' => ∃ (v : Value) (vs : List Value) (hv' : Hv), e = .returned v ∧ v = retOf vs ∧ (∀ k, k < keysOf sp.ks → hv' k = hv k) ∧ StRel w' S0 hv' (endStore sp r x') ∧
      All2 (AVRep w' (All S0 hv' (endStore sp r x')) hv') (resAVs sp.outs r (keysOf sp.ks)) vs ∧ (∀ b, Own hv' (endStore sp r x') b → n ≤ b) ∧ Below tr n w w' ∧
      StepOk w (All S0 hv (storeOf 0 (obsOf sp.ks x))) w' (All S0 hv' (endStore sp r x')) ∧ ∀ b, S0 b → w'.heap[b]? = w.heap[b]?

theorem capsOb_length : ∀ (cs : List Ty) (x : Tup cs), (capsOb cs x).length = cs.length
  | [], _ => rfl
  | t :: cs, x => by simp [capsOb, capsOb_length cs x.2]
theorem obs_length (k : AK) (x : k.den) : (k.obs x).length = k.keys := by
  cases k <;> simp [AK.obs, AK.keys, capsOb_length]
theorem obsOf_length : ∀ (ks : List AK) (x : Data ks), (obsOf ks x).length = keysOf ks
  | [], _ => rfl
  | k :: r, x => by simp [obsOf, keysOf, obs_length, obsOf_length r x.2]

section
variable {w w' : World} {S S' S0 : Nat → Prop} {hv hv1 hv2 : Hv} {st : Store}
theorem range_all : ∀ (n d : Nat) (l : List Value), (∀ k, d ≤ k → k < d + n → hv1 (k + 1) = hv k) → All2 (fun k v => hv k = some v) (List.range' d n) l → All2 (fun k v => hv1 k = some v) (List.range' (d + 1) n) l
  | 0, d, l, _, h => by cases l <;> first | trivial | exact h.elim
  | n + 1, d, [], _, h => h.elim
  | n + 1, d, v :: l, hh, h => ⟨(hh d (by omega) (by omega)).trans h.1, range_all n (d + 1) l (fun k h1 h2 => hh k (by omega) (by omega)) h.2⟩
theorem slot_shift {d : Nat} (k : AK) (x : k.den) {v : Value} (hh : ∀ j, d ≤ j → j < d + k.keys → hv1 (j + 1) = hv j) (h : SlotRep w S hv (k.slot d x) v) : SlotRep w S hv1 (k.slot (d + 1) x) v := by
  cases k with
  | pure t => exact h
  | row e => exact ⟨(hh d (by omega) (by simp [AK.keys])).trans h.1, h.2⟩
  | cell t =>
    have he := hh d (by omega) (by simp [AK.keys])
    rcases h with ⟨b, h1, h2⟩ | ⟨b, o, len, cap, h1, h2⟩
    · exact .inl ⟨b, he.trans h1, h2⟩
    · exact .inr ⟨b, o, len, cap, he.trans h1, h2⟩
  | fn f cs =>
    obtain ⟨l, hl, e⟩ := h
    exact ⟨l, range_all cs.length d l (fun k h1 h2 => hh k h1 h2) hl, e⟩
  | con t => exact h
theorem slots_shift : ∀ (ks : List AK) (d : Nat) (x : Data ks) (vals : List Value), (∀ j, d ≤ j → j < d + keysOf ks → hv1 (j + 1) = hv j) → All2 (SlotRep w S hv) (slotsOf d ks x) vals → All2 (SlotRep w S hv1) (slotsOf (d + 1) ks x) vals
  | [], d, x, [], _, _ => trivial
  | [], d, x, _ :: _, _, h => h.elim
  | k :: r, d, x, [], _, h => h.elim
  | k :: r, d, x, v :: vs, hh, h => by
    refine ⟨slot_shift k x.1 (fun j h1 h2 => hh j h1 (by simp only [keysOf]; omega)) h.1, ?_⟩
    have := slots_shift r (d + k.keys) x.2 vs (fun j h1 h2 => hh j (by omega) (by simp only [keysOf]; omega)) h.2
    rwa [show d + k.keys + 1 = d + 1 + k.keys by omega] at this

theorem cell_read {t : Ty} {k : Nat} {x : t.den} (h : readCell t k st = some x) : st.get k = some (.cells [.pure t x]) := by
  unfold readCell at h
  split at h
  · rename_i t' x' hg
    split at h
    · rename_i e
      subst e
      injection h with h
      subst h
      exact hg
    · cases h
  · cases h
theorem caps_read : ∀ (cs : List Ty) (ks : List Nat) (x : Tup cs), readCaps st cs ks = some x → ks.length = cs.length ∧ ∀ (i k : Nat), ks[i]? = some k → ∃ ob, (capsOb cs x)[i]? = some ob ∧ st.get k = some ob
  | [], [], _, _ => ⟨rfl, fun i k h => by simp at h⟩
  | [], _ :: _, _, h => by simp [readCaps] at h
  | _ :: _, [], _, h => by simp [readCaps] at h
  | t :: cs, k :: ks, x, h => by
    simp only [readCaps] at h
    split at h
    · rename_i y hy
      split at h
      · rename_i r hr
        injection h with h
        subst h
        obtain ⟨h1, h2⟩ := caps_read cs ks r hr
        refine ⟨by simp [h1], fun i k' hi => ?_⟩
        cases i with
        | zero =>
          simp at hi
          subst hi
          exact ⟨_, rfl, cell_read hy⟩
        | succ i => exact h2 i k' (by simpa using hi)
      · cases h
    · cases h

/-- A pointer to a variable. -/
theorem ref_same {k : Nat} {v : Value} {cs : List AV} (h : AVRep w S hv (.ref k 0 0 0) v) (hg : ∃ u, hv k = some u ∧ ObRep w S hv u (.cells cs)) : hv k = some v := by
  obtain ⟨u, h1, b, vs, ty, rfl, _⟩ := hg
  rcases h with ⟨b', h2, rfl⟩ | ⟨b', o, len, cap, h2, _⟩
  · rw [h1] at h2
    injection h2 with h2
    injection h2 with h2
    injection h2 with h2
    injection h2 with h2
    subst h2
    exact h1
  · rw [h1] at h2
    cases h2

theorem ak_read (k : AK) (d : Nat) (x y : k.den) {kk : List Nat} {g : Slot} {v : Value} (h0 : SlotRep w S hv (k.slot d x) v) (hobj : ∀ (i : Nat) (ob : Ob), (k.obs x)[i]? = some ob → ∃ u, hv (d + i) = some u ∧ ObRep w S hv u ob)
    (hr : k.read st g = some (y, kk)) (h2 : SlotRep w' (All S0 hv2 st) hv2 g v) (hst : StRel w' S0 hv2 st) :
    kk.length = k.keys ∧ ∀ (i key : Nat), kk[i]? = some key → ∃ ob u, (k.obs y)[i]? = some ob ∧ st.get key = some ob ∧ hv2 key = some u ∧ hv (d + i) = some u := by
  cases k with
  | pure t =>
    simp only [AK.read] at hr
    unfold rdPure at hr
    split at hr
    · split at hr
      · injection hr with hr
        injection hr with _ hr
        subst hr
        exact ⟨rfl, fun i key h => by simp at h⟩
      · cases hr
    · cases hr
  | con t =>
    simp only [AK.read] at hr
    unfold rdCon at hr
    split at hr
    · split at hr
      · injection hr with hr
        injection hr with _ hr
        subst hr
        exact ⟨rfl, fun i key h => by simp at h⟩
      · cases hr
    · cases hr
  | row e =>
    simp only [AK.read] at hr
    unfold rdRow at hr
    split at hr
    · rename_i k'
      split at hr
      · rename_i xs hxs
        injection hr with hr
        injection hr with hr1 hr2
        subst hr1 hr2
        refine ⟨rfl, fun i key h => ?_⟩
        have hi : i = 0 ∧ k' = key := by
          cases i with
          | zero => simpa using h
          | succ i => simp at h
        obtain ⟨rfl, rfl⟩ := hi
        exact ⟨_, v, rfl, wrow_get hxs, h2.1, h0.1⟩
      · cases hr
    · cases hr
  | cell t =>
    simp only [AK.read] at hr
    unfold rdCell at hr
    split at hr
    · rename_i k'
      split at hr
      · rename_i z hz
        injection hr with hr
        injection hr with hr1 hr2
        subst hr1 hr2
        refine ⟨rfl, fun i key h => ?_⟩
        have hi : i = 0 ∧ k' = key := by
          cases i with
          | zero => simpa using h
          | succ i => simp at h
        obtain ⟨rfl, rfl⟩ := hi
        have hg := cell_read hz
        exact ⟨_, v, rfl, hg, ref_same h2 (hst.objs _ _ hg), ref_same h0 (hobj 0 _ rfl)⟩
      · cases hr
    · cases hr
  | fn f cs =>
    simp only [AK.read] at hr
    unfold rdFn at hr
    split at hr
    · rename_i f' ks
      cases hb : Nat.beq f' f with
      | false => rw [hb] at hr; cases hr
      | true =>
        rw [hb] at hr
        simp only [cond_true] at hr
        split at hr
        · rename_i z hz
          injection hr with hr
          injection hr with hr1 hr2
          subst hr1 hr2
          obtain ⟨c1, c2⟩ := caps_read cs ks z hz
          obtain ⟨l0, a1, a2⟩ := h0
          obtain ⟨l2, b1, b2⟩ := h2
          rw [a2] at b2
          have hl : l0 = l2 := by simpa using (Value.func.inj b2).2.2
          subst hl
          refine ⟨c1, fun i key h => ?_⟩
          obtain ⟨ob, d1, d2⟩ := c2 i key h
          obtain ⟨u, e1, e2⟩ := b1.get i key h
          have hlt : i < cs.length := by
            have := (List.getElem?_eq_some_iff.1 h).1
            omega
          obtain ⟨u', e3, e4⟩ := a1.get i (d + i) (by rw [List.getElem?_range' hlt]; simp)
          rw [e1] at e3
          injection e3 with e3
          subst e3
          exact ⟨ob, u, d1, d2, e2, e4⟩
        · cases hr
    · cases hr

theorem by_read : ∀ (ks : List AK) (d : Nat) (x y : Data ks) (kk : List Nat) (gs : List Slot) (vals : List Value), All2 (SlotRep w S hv) (slotsOf d ks x) vals → (∀ (i : Nat) (ob : Ob), (obsOf ks x)[i]? = some ob → ∃ u, hv (d + i) = some u ∧ ObRep w S hv u ob) →
    readBy st ks gs = some (y, kk) → All2 (SlotRep w' (All S0 hv2 st) hv2) gs vals → StRel w' S0 hv2 st →
    kk.length = keysOf ks ∧ ∀ (i key : Nat), kk[i]? = some key → ∃ ob u, (obsOf ks y)[i]? = some ob ∧ st.get key = some ob ∧ hv2 key = some u ∧ hv (d + i) = some u
  | [], d, x, y, kk, [], [], _, _, hr, _, _ => by
    simp only [readBy, Option.some.injEq, Prod.mk.injEq] at hr
    obtain ⟨_, rfl⟩ := hr
    exact ⟨rfl, fun i key h => by simp at h⟩
  | [], d, x, y, kk, _ :: _, _, _, _, hr, _, _ => by simp [readBy] at hr
  | [], d, x, y, kk, [], _ :: _, _, _, _, h, _ => h.elim
  | _ :: _, d, x, y, kk, [], _, _, _, hr, _, _ => by simp [readBy] at hr
  | _ :: _, d, x, y, kk, _ :: _, [], h, _, _, _, _ => h.elim
  | k :: r, d, x, y, kk, g :: gs, v :: vs, h0, hobj, hr, h2, hst => by
    simp only [readBy] at hr
    split at hr
    · rename_i y1 l hy1
      split at hr
      · rename_i y2 m hy2
        simp only [Option.some.injEq, Prod.mk.injEq] at hr
        obtain ⟨rfl, rfl⟩ := hr
        have ho := obs_length k x.1
        obtain ⟨p1, p2⟩ := ak_read k d x.1 y1 h0.1 (fun i ob hi => hobj i ob (by
          show (k.obs x.1 ++ obsOf r x.2)[i]? = some ob
          rw [List.getElem?_append_left (List.getElem?_eq_some_iff.1 hi).1]; exact hi)) hy1 h2.1 hst
        obtain ⟨q1, q2⟩ := by_read r (d + k.keys) x.2 y2 m gs vs h0.2 (fun i ob hi => by
          have := hobj (k.keys + i) ob (by
            show (k.obs x.1 ++ obsOf r x.2)[k.keys + i]? = some ob
            rw [List.getElem?_append_right (by omega), ho, Nat.add_sub_cancel_left]; exact hi)
          rwa [← Nat.add_assoc] at this) hy2 h2.2 hst
        have ho' := obs_length k y1
        refine ⟨by simp [keysOf, p1, q1], fun i key hi => ?_⟩
        show ∃ ob u, (k.obs y1 ++ obsOf r y2)[i]? = some ob ∧ _
        by_cases hlt : i < l.length
        · rw [List.getElem?_append_left hlt] at hi
          rw [List.getElem?_append_left (by omega)]
          exact p2 i key hi
        · rw [List.getElem?_append_right (by omega)] at hi
          rw [List.getElem?_append_right (by omega), ho', ← p1]
          obtain ⟨ob, u, z1, z2, z3, z4⟩ := q2 _ key hi
          exact ⟨ob, u, z1, z2, z3, by rw [show d + i = d + k.keys + (i - l.length) by omega]; exact z4⟩
      · cases hr
    · cases hr
end

theorem slotsOf_length : ∀ (ks : List AK) (d : Nat) (x : Data ks), (slotsOf d ks x).length = ks.length
  | [], _, _ => rfl
  | k :: r, d, x => by simp [slotsOf, slotsOf_length r _ x.2]
theorem capsOb_kind : ∀ (cs : List Ty) (x : Tup cs), ∀ ob ∈ capsOb cs x, ∃ t z, ob = .cells [.pure t z]
  | [], _, ob, h => by simp [capsOb] at h
  | t :: cs, x, ob, h => by
    rcases List.mem_cons.1 h with rfl | h
    · exact ⟨_, _, rfl⟩
    · exact capsOb_kind cs x.2 ob h
theorem obsOf_kind : ∀ (ks : List AK) (x : Data ks), ∀ ob ∈ obsOf ks x, (∃ e xs, ob = .row e xs) ∨ ∃ t z, ob = .cells [.pure t z]
  | [], _, ob, h => by simp [obsOf] at h
  | k :: r, x, ob, h => by
    rcases List.mem_append.1 h with h | h
    · cases k with
      | pure t => simp [AK.obs] at h
      | row e => simp only [AK.obs, List.mem_singleton] at h; exact .inl ⟨_, _, h⟩
      | cell t => simp only [AK.obs, List.mem_singleton] at h; exact .inr ⟨_, _, h⟩
      | fn f cs => exact .inr (capsOb_kind cs x.1 ob h)
      | con t => simp [AK.obs] at h
    · exact obsOf_kind r x.2 ob h
theorem ObRep.hv_free {w : World} {S : Nat → Prop} {hv hv' : Hv} {v : Value} {ks : List AK} {x : Data ks} {ob : Ob} (hm : ob ∈ obsOf ks x) (h : ObRep w S hv v ob) : ObRep w S hv' v ob := by
  rcases obsOf_kind ks x ob hm with ⟨e, xs, rfl⟩ | ⟨t, z, rfl⟩
  · exact h
  · obtain ⟨b, vs, ty, h1, h2, h3⟩ := h
    refine ⟨b, vs, ty, h1, h2, ?_⟩
    revert h3
    generalize vs.toList = l
    intro h3
    match l, h3 with
    | [v], h3 => exact ⟨h3.1, trivial⟩
theorem get_mem {l : List Ob} {d j : Nat} {ob : Ob} (h : (storeOf d l).get j = some ob) : ob ∈ l := by
  rw [get_storeOf] at h
  split at h
  · exact List.mem_of_getElem? h
  · cases h

theorem by_of_eval {tr : Bool} (ok : EnvOk tr P E) (hmix : P.follows .mixedOrders = true) {f : FuncId} {fn : Func} (hf : P.funcs[f]? = some fn) {c : Code} (hb : fn.body = some c) {sp : BySpec}
    (he : ∀ x y, sp.F x = some y → ∃ fuel, evalBy E fuel fn c sp.ks sp.outs x = some y) : By tr P f sp := by
  intro x r x' hF w n S0 hv vals hn hS0 hst hsl hbase
  obtain ⟨fuel, hev⟩ := he x (r, x') hF
  have hlen : vals.length = sp.ks.length := by rw [← slotsOf_length sp.ks 0 x]; exact hsl.length.symm
  have hobl := obsOf_length sp.ks x
  refine calls_of_wp hf hb ?_
  obtain ⟨hv1, hv10, hv1s⟩ : ∃ hv1 : Hv, hv1 0 = some (.tuple vals.toArray) ∧ ∀ k, hv1 (k + 1) = if k < keysOf sp.ks then hv k else none :=
    ⟨fun k => match k with | 0 => some (.tuple vals.toArray) | k + 1 => if k < keysOf sp.ks then hv k else none, rfl, fun _ => rfl⟩
  obtain ⟨sto1, hsto1⟩ : ∃ st : Store, st = (0, Ob.ghost (slotsOf 1 sp.ks x)) :: storeOf 1 (obsOf sp.ks x) := ⟨_, rfl⟩
  have g0 : sto1.get 0 = some (.ghost (slotsOf 1 sp.ks x)) := by rw [hsto1]; rfl
  have gs : ∀ k, sto1.get (k + 1) = (storeOf 0 (obsOf sp.ks x)).get k := fun k => by
    rw [hsto1]
    simp only [Store.get]
    rw [if_neg (by omega), get_storeOf, get_storeOf, if_pos (by omega), if_pos (by omega)]
    simp
  have hlt : ∀ k ob, (storeOf 0 (obsOf sp.ks x)).get k = some ob → k < keysOf sp.ks := fun k ob h => by
    rw [get_storeOf, if_pos (by omega)] at h
    have := (List.getElem?_eq_some_iff.1 h).1
    omega
  have hown : ∀ b, Own hv1 sto1 b ↔ Own hv (storeOf 0 (obsOf sp.ks x)) b := fun b => by
    constructor
    · rintro ⟨k, o, v, h1, h2, h3⟩
      cases k with
      | zero =>
        rw [g0] at h1
        injection h1 with h1
        subst h1
        simp [blk] at h3
      | succ k =>
        rw [gs] at h1
        rw [hv1s, if_pos (hlt k o h1)] at h2
        exact ⟨k, o, v, h1, h2, h3⟩
    · rintro ⟨k, o, v, h1, h2, h3⟩
      exact ⟨k + 1, o, v, by rw [gs]; exact h1, by rw [hv1s, if_pos (hlt k o h1)]; exact h2, h3⟩
  have hall : All S0 hv1 sto1 = All S0 hv (storeOf 0 (obsOf sp.ks x)) := funext fun b => propext (or_congr Iff.rfl (hown b))
  have hsl1 : All2 (SlotRep w (All S0 hv (storeOf 0 (obsOf sp.ks x))) hv1) (slotsOf 1 sp.ks x) vals := slots_shift sp.ks 0 x vals (fun j _ h => by rw [hv1s, if_pos (by omega)]) hsl
  have hrel : Rel ⟨w, n, hn, .tuple vals.toArray, tr, All S0 hv (storeOf 0 (obsOf sp.ks x))⟩ S0 hv1 (startBy sp.ks x fn.ntmps) { tmps := vals.toArray ++ Array.replicate (fn.ntmps - vals.toArray.size) undef, defers := [] } w := by
    have hst1 : (startBy sp.ks x fn.ntmps).st = sto1 := hsto1.symm
    refine ⟨?_, ?_, ?_, hS0, Below.refl _ _ _, rfl, ?_, ?_, fun _ _ => rfl⟩
    · rw [hst1]
      refine ⟨fun k o hk => ?_, fun k o v k' o' v' b h1 h2 h3 h4 h5 h6 => ?_, fun b hb' => hst.out b ((hown b).1 hb')⟩
      · rw [hall]
        cases k with
        | zero =>
          rw [g0] at hk
          injection hk with hk
          subst hk
          exact ⟨_, hv10, vals, rfl, hsl1⟩
        | succ k =>
          rw [gs] at hk
          obtain ⟨v, h1, h2⟩ := hst.objs k o hk
          exact ⟨v, by rw [hv1s, if_pos (hlt k o hk)]; exact h1, h2.hv_free (get_mem hk)⟩
      · cases k with
        | zero => rw [g0] at h1; injection h1 with h1; subst h1; simp [blk] at h3
        | succ k =>
          cases k' with
          | zero => rw [g0] at h4; injection h4 with h4; subst h4; simp [blk] at h6
          | succ k' =>
            rw [gs] at h1 h4
            rw [hv1s, if_pos (hlt k _ h1)] at h2
            rw [hv1s, if_pos (hlt k' _ h4)] at h5
            rw [hst.inj _ _ _ _ _ _ _ h1 h2 h3 h4 h5 h6]
    · rw [hst1, hall]
      simp only [startBy, Array.toList_append, Array.toList_replicate, List.size_toArray, hlen]
      exact hsl1.append (All2.replicate (show SlotRep w _ _ (.one .dead) undef from trivial) _)
    · rw [hst1]
      exact fun b hb' => hbase b ((hown b).1 hb')
    · rw [hst1]
      intro k sl hk
      cases k with
      | zero => exact hv10
      | succ k =>
        rw [gs] at hk
        rcases obsOf_kind sp.ks x _ (get_mem hk) with ⟨e, xs, h⟩ | ⟨t, z, h⟩ <;> cases h
    · rw [hst1, hall]
      exact StepOk.refl _ _
  refine evalC_sound ok hmix fuel c _ (r, x') _ ?_ _ _ w hv1 hrel (fun j hj => ?_) hev
  · intro e s a w' hv2 h hf' hk
    have hcore : endBy E sp.ks sp.outs fn .ret s = some (r, x') → bodyPost P fn (fun e w' => ∃ (v : Value) (vs : List Value) (hv' : Hv), e = .returned v ∧ v = retOf vs ∧ (∀ k, k < keysOf sp.ks → hv' k = hv k) ∧ StRel w' S0 hv' (endStore sp r x') ∧
      All2 (AVRep w' (All S0 hv' (endStore sp r x')) hv') (resAVs sp.outs r (keysOf sp.ks)) vs ∧ (∀ b, Own hv' (endStore sp r x') b → n ≤ b) ∧ Below tr n w w' ∧
      StepOk w (All S0 hv (storeOf 0 (obsOf sp.ks x))) w' (All S0 hv' (endStore sp r x')) ∧ ∀ b, S0 b → w'.heap[b]? = w.heap[b]?) .ret a w' := by
      intro hk
      simp only [endBy] at hk
      split at hk
      · rename_i l hl
        split at hk
        · rename_i r0 hr0
          split at hk
          · rename_i g hg
            split at hk
            · rename_i x0 kk hread
              split at hk
              · rename_i hc
                injection hk with hk
                injection hk with hk1 hk2
                subst hk1 hk2
                simp only [Bool.and_eq_true] at hc
                obtain ⟨c1, c2⟩ := hc
                have hnd := nodupB_sound c1
                obtain ⟨us, m1, m2⟩ := resSlots_run (P := P) ok h _ _ hl
                obtain ⟨fv, q1, q2, q3⟩ := outs_rep h.st sp.outs l us r0 m2 hr0
                obtain ⟨gv, hgv, gus, rfl, hgu⟩ := h.st.objs 0 _ hg
                have hgv2 : hv2 0 = some (.tuple vals.toArray) := h.gh 0 g hg
                rw [hgv2] at hgv
                injection hgv with hgv
                injection hgv with hgv
                have hgv : vals = gus := by simpa using hgv
                subst hgv
                obtain ⟨k1, k2⟩ := by_read sp.ks 0 x x0 kk g vals hsl (fun i ob hi => by
                  obtain ⟨v, z1, z2⟩ := hst.objs i ob (by rw [get_storeOf, if_pos (by omega)]; simpa using hi)
                  exact ⟨v, by simpa using z1, z2⟩) hread hgu h.st
                obtain ⟨hvF, hvFl, hvFr⟩ : ∃ hvF : Hv, (∀ j, j < keysOf sp.ks → hvF j = hv j) ∧ ∀ j, hvF (keysOf sp.ks + j) = (fv[j]?).map (·.1) :=
                  ⟨fun j => if j < keysOf sp.ks then hv j else (fv[j - keysOf sp.ks]?).map (·.1), fun j hj => if_pos hj, fun j => by simp only [Nat.add_sub_cancel_left]; rw [if_neg (by omega)]⟩
                have hend : ∀ (j : Nat) (ob : Ob), (endStore sp r0 x0).get j = some ob → (j < keysOf sp.ks ∧ ∃ key u, kk[j]? = some key ∧ s.st.get key = some ob ∧ hv2 key = some u ∧ hvF j = some u) ∨
                    ∃ i p, j = keysOf sp.ks + i ∧ fv[i]? = some p ∧ (rowsOf sp.outs r0)[i]? = some ob ∧ hvF j = some p.1 ∧ isCell p.1 ∧ ObRep w' (All S0 hv2 s.st) hv2 p.1 ob ∧ ∀ b, blk ob p.1 = some b → ∃ k ob' u, p.2 = some k ∧ s.st.get k = some ob' ∧ hv2 k = some u ∧ blk ob' u = some b := by
                  intro j ob hj
                  unfold endStore at hj
                  rw [get_resStore] at hj
                  split at hj
                  · rename_i hjj
                    rw [get_rowsOf] at hj
                    obtain ⟨p, p1, p2⟩ := q1.get _ ob hj
                    refine .inr ⟨j - keysOf sp.ks, p, by omega, p1, hj, ?_, p2.1, p2.2.1, p2.2.2⟩
                    have := hvFr (j - keysOf sp.ks)
                    rw [show keysOf sp.ks + (j - keysOf sp.ks) = j by omega, p1] at this
                    exact this
                  · rw [get_storeOf, if_pos (by omega), Nat.sub_zero] at hj
                    have hjl := (List.getElem?_eq_some_iff.1 hj).1
                    rw [obsOf_length] at hjl
                    obtain ⟨ob', u, z1, z2, z3, z4⟩ := k2 j kk[j] (List.getElem?_eq_getElem (by omega))
                    rw [hj] at z1
                    injection z1 with z1
                    subst z1
                    exact .inl ⟨hjl, _, u, List.getElem?_eq_getElem (by omega), z2, z3, by rw [hvFl j hjl]; simpa using z4⟩
                have hkey : ∀ (j : Nat) (ob : Ob) (u : Value) (b : Nat), (endStore sp r0 x0).get j = some ob → hvF j = some u → blk ob u = some b → ∃ key ob' u', s.st.get key = some ob' ∧ hv2 key = some u' ∧ blk ob' u' = some b ∧
                    ((j < keysOf sp.ks ∧ kk[j]? = some key) ∨ ∃ i p, j = keysOf sp.ks + i ∧ fv[i]? = some p ∧ p.2 = some key) := by
                  intro j ob u b hj hu hbk
                  rcases hend j ob hj with ⟨hlt', key, u', z1, z2, z3, z4⟩ | ⟨i, p, rfl, z1, z2, z3, z4, z5, z6⟩
                  · rw [z4] at hu
                    injection hu with hu
                    subst hu
                    exact ⟨key, ob, u', z2, z3, hbk, .inl ⟨hlt', z1⟩⟩
                  · rw [z3] at hu
                    injection hu with hu
                    subst hu
                    obtain ⟨key, ob', u', y1, y2, y3, y4⟩ := z6 b hbk
                    exact ⟨key, ob', u', y2, y3, y4, .inr ⟨i, p, rfl, z1, y1⟩⟩
                have hsub : ∀ b, All S0 hvF (endStore sp r0 x0) b → All S0 hv2 s.st b := fun b hb' => hb'.imp id fun ⟨j, ob, u, y1, y2, y3⟩ => by
                  obtain ⟨key, ob', u', z1, z2, z3, _⟩ := hkey j ob u b y1 y2 y3
                  exact ⟨key, ob', u', z1, z2, z3⟩
                have hs : StepOk w' (All S0 hv2 s.st) w' (All S0 hvF (endStore sp r0 x0)) := (StepOk.refl _ _).sub hsub
                have hmem : ∀ (j key : Nat), ((j < keysOf sp.ks ∧ kk[j]? = some key) ∨ ∃ i p, j = keysOf sp.ks + i ∧ fv[i]? = some p ∧ p.2 = some key) → key ∈ kk ++ freshKeys sp.outs l := by
                  intro j key hj
                  rcases hj with ⟨_, hj⟩ | ⟨i, p, _, hj, hp⟩
                  · exact List.mem_append_left _ (List.mem_of_getElem? hj)
                  · refine List.mem_append_right _ ?_
                    rw [← q2]
                    exact List.mem_filterMap.2 ⟨p, List.mem_of_getElem? hj, hp⟩
                have hfree : Free hv2 s.st (pureRows sp.outs l) (All S0 hvF (endStore sp r0 x0)) := by
                  intro k hk e xs v b y1 y2 y3 hb'
                  rcases hb' with hb' | ⟨j, ob, u, z1, z2, z3⟩
                  · exact h.st.out b ⟨k, _, _, y1, y2, y3⟩ hb'
                  · obtain ⟨key, ob', u', x1, x2, x3, x4⟩ := hkey j ob u b z1 z2 z3
                    have hkk := h.st.inj _ _ _ _ _ _ _ y1 y2 y3 x1 x2 x3
                    subst hkk
                    simp only [disjoint, List.all_eq_true, Bool.not_eq_true', List.contains_eq_mem, decide_eq_false_iff_not] at c2
                    exact c2 k (hmem j k x4) hk
                have hnd1 := (List.nodup_append.1 hnd).1
                have hnd2 := (List.nodup_append.1 hnd).2.1
                have hnd3 := (List.nodup_append.1 hnd).2.2
                have hinj : ∀ (j j' key : Nat), ((j < keysOf sp.ks ∧ kk[j]? = some key) ∨ ∃ i p, j = keysOf sp.ks + i ∧ fv[i]? = some p ∧ p.2 = some key) → ((j' < keysOf sp.ks ∧ kk[j']? = some key) ∨ ∃ i p, j' = keysOf sp.ks + i ∧ fv[i]? = some p ∧ p.2 = some key) → j = j' := by
                  intro j j' key h1 h2
                  rcases h1 with ⟨_, h1⟩ | ⟨i, p, rfl, h1, hp⟩
                  · rcases h2 with ⟨_, h2⟩ | ⟨i, p, rfl, h2, hp⟩
                    · exact (List.getElem?_inj (List.getElem?_eq_some_iff.1 h1).1 hnd1).1 (h1.trans h2.symm)
                    · exact absurd rfl (hnd3 key (List.mem_of_getElem? h1) key (by rw [← q2]; exact List.mem_filterMap.2 ⟨p, List.mem_of_getElem? h2, hp⟩))
                  · rcases h2 with ⟨_, h2⟩ | ⟨i', p', rfl, h2, hp'⟩
                    · exact absurd rfl (hnd3 key (List.mem_of_getElem? h2) key (by rw [← q2]; exact List.mem_filterMap.2 ⟨p, List.mem_of_getElem? h1, hp⟩))
                    · rw [filterMap_inj (by rw [q2]; exact hnd2) h1 h2 hp hp']
                refine ⟨h.dfr, retOf us, ?_, retOf us, us, hvF, rfl, rfl, fun k hk => hvFl k hk, ⟨fun j ob hj => ?_, fun j ob v j' ob' v' b y1 y2 y3 y4 y5 y6 => ?_, fun b ⟨j, ob, u, y1, y2, y3⟩ hb0 => ?_⟩, ?_, fun b ⟨j, ob, u, y1, y2, y3⟩ => ?_, h.keep, h.stp.trans hs, h.kp⟩
                · have hres : results fn a.tmps = (do let vs ← fn.results.mapM (resM a); pure (if h : vs.size = 1 then vs[0] else .tuple vs)) := rfl
                  rw [hres, Sem.run_bind, Array.mapM_eq_mapM_toList, Sem.run_map, m1]
                  simp only [Result.andThen_ok, Sem.run_pure]
                  congr 1
                  match us with
                  | [] => rfl
                  | [v] => rfl
                  | v :: u :: m => rfl
                · rcases hend j ob hj with ⟨hlt', key, u', z1, z2, z3, z4⟩ | ⟨i, p, rfl, z1, z2, z3, z4, z5, z6⟩
                  · obtain ⟨v, y1, y2⟩ := h.st.objs key ob z2
                    rw [z3] at y1
                    injection y1 with y1
                    subst y1
                    refine ⟨u', z4, ?_⟩
                    have hob : ob ∈ obsOf sp.ks x0 := by
                      obtain ⟨ob', u2, w1, w2, _, _⟩ := k2 j key z1
                      rw [z2] at w2
                      injection w2 with w2
                      subst w2
                      exact List.mem_of_getElem? w1
                    exact (y2.hv_free (hv' := hvF) hob).step hs (Hv.le_refl _) fun _ _ => rfl
                  · refine ⟨p.1, z3, ?_⟩
                    have hrow := resStore_row sp.outs r0 0 [] i ob (by rw [get_rowsOf]; exact z2)
                    rcases hrow with h' | ⟨t, xs, rfl, _⟩
                    · cases h'
                    · rcases z5 with q | ⟨b, off, cap, cells, ty, e1, w1, w2, w3, w4, w5⟩
                      · exact .inl q
                      · refine .inr ⟨b, off, cap, cells, ty, e1, w1, w2, w3, w4, fun i x hx => ?_⟩
                        obtain ⟨es, v1, v2⟩ := w5 i x hx
                        exact ⟨es, v1.step hs, v2⟩
                · obtain ⟨key, ob1, u1, z1, z2, z3, z4⟩ := hkey j ob v b y1 y2 y3
                  obtain ⟨key', ob2, u2, z1', z2', z3', z4'⟩ := hkey j' ob' v' b y4 y5 y6
                  have hkk := h.st.inj _ _ _ _ _ _ _ z1 z2 z3 z1' z2' z3'
                  subst hkk
                  exact hinj j j' key z4 z4'
                · obtain ⟨key, ob1, u1, z1, z2, z3, z4⟩ := hkey j ob u b y1 y2 y3
                  exact h.st.out b ⟨key, ob1, u1, z1, z2, z3⟩ hb0
                · exact q3 _ hvF (keysOf sp.ks) hsub hfree fun j p hj => by rw [hvFr, hj]; rfl
                · obtain ⟨key, ob1, u1, z1, z2, z3, z4⟩ := hkey j ob u b y1 y2 y3
                  exact h.base b ⟨key, ob1, u1, z1, z2, z3⟩
              · cases hk
            · cases hk
          · cases hk
        · cases hk
      · cases hk
    cases e with
    | exit id => cases hk
    | normal => exact hcore hk
    | ret => exact hcore hk
  · have : j = (j - 1) + 1 := by simp only [startBy] at hj; omega
    rw [this, hv1s, if_neg (by simp only [startBy] at hj; omega)]
end Go.Ev
