/- Plain: counts of links. -/
import Derived.Test.YtdchhhedpipeiaaEP4
set_option linter.unusedVariables false
set_option linter.unusedSimpArgs false
namespace BE
open Go Go.Ev

/-! ### Counts -/
theorem sum_counts : ∀ {ks ns : List Int}, ks.Nodup → (∀ n ∈ ns, n ∈ ks) → (ks.map fun k => ns.count k).sum = ns.length
  | [], ns, _, h => by
    have : ns = [] := List.eq_nil_iff_forall_not_mem.2 fun n hn => by cases h n hn
    subst this
    rfl
  | k :: ks, ns, hd, h => by
    have ⟨h1, h2⟩ := List.nodup_cons.1 hd
    have ih := sum_counts (ks := ks) (ns := ns.filter fun n => !(n == k)) h2 fun n hn => by
      have ⟨hn1, hn2⟩ := List.mem_filter.1 hn
      rcases List.mem_cons.1 (h n hn1) with e | e
      · simp [e] at hn2
      · exact e
    simp only [List.map_cons, List.sum_cons]
    have e1 : (ks.map fun k' => (ns.filter fun n => !(n == k)).count k') = ks.map fun k' => ns.count k' := List.map_congr_left fun k' hk' => by
      rw [List.count_filter]
      have : k' ≠ k := fun e => h1 (e ▸ hk')
      simpa using this
    rw [e1] at ih
    rw [ih]
    have := List.length_eq_countP_add_countP (fun n => n == k) (l := ns)
    rw [this, List.countP_eq_length_filter (p := fun a => decide ¬(a == k) = true)]
    have e2 : (ns.filter fun a => decide ¬(a == k) = true) = ns.filter fun n => !(n == k) := List.filter_congr fun x _ => by cases (x == k) <;> rfl
    rw [e2]
    rfl
theorem sorted_unique : ∀ {a b : List Int}, a.Pairwise (· < ·) → b.Pairwise (· < ·) → (∀ x, x ∈ a ↔ x ∈ b) → a = b
  | [], [], _, _, _ => rfl
  | [], y :: b, _, _, h => by have := (h y).2 (by simp); cases this
  | x :: a, [], _, _, h => by have := (h x).1 (by simp); cases this
  | x :: a, y :: b, ha, hb, h => by
    have ⟨a1, a2⟩ := List.pairwise_cons.1 ha
    have ⟨b1, b2⟩ := List.pairwise_cons.1 hb
    have hxy : x = y := by
      rcases List.mem_cons.1 ((h x).1 (by simp)) with e | e
      · exact e
      · rcases List.mem_cons.1 ((h y).2 (by simp)) with e' | e'
        · exact e'.symm
        · have := b1 x e
          have := a1 y e'
          omega
    subst hxy
    rw [sorted_unique a2 b2 fun z => ?_]
    constructor
    · intro hz
      rcases List.mem_cons.1 ((h z).1 (List.mem_cons_of_mem _ hz)) with e | e
      · have := a1 z hz
        omega
      · exact e
    · intro hz
      rcases List.mem_cons.1 ((h z).2 (List.mem_cons_of_mem _ hz)) with e | e
      · have := b1 z hz
        omega
      · exact e

/-! ### A map of counts -/
abbrev Ent := List (Nat × (Int × Nat))
noncomputable abbrev keq : Int → Int → Bool := keyEq ty2
theorem keq_eq (x y : Int) : keq x y = decide (x = y) := by
  show keyEq (.int .i64) x y = _
  unfold keyEq
  simp only [eqDen]
  rfl
theorem mapGet_some_mem {k : Int} {v : Nat} : ∀ {E : Ent}, mapGet keq k E = some v → k ∈ E.map (·.2.1)
  | e :: E, h => by
    unfold mapGet at h
    by_cases hk : k = e.2.1
    · simp [hk]
    · rw [keq_eq, decide_eq_false hk] at h
      simp [mapGet_some_mem (E := E) h]
theorem mapGet_mem {k : Int} : ∀ {E : Ent}, k ∈ E.map (·.2.1) → ∃ v, mapGet keq k E = some v
  | e :: E, h => by
    unfold mapGet
    by_cases hk : k = e.2.1
    · rw [keq_eq, decide_eq_true hk]
      exact ⟨_, rfl⟩
    · rw [keq_eq, decide_eq_false hk]
      simp [hk] at h
      obtain ⟨a, b, hm⟩ := h
      exact mapGet_mem (List.mem_map.2 ⟨_, hm, rfl⟩)
theorem mapSet_maps {k : Int} {v : Nat} : ∀ {E : Ent}, (mapSet keq k v E).map (·.2.1) = E.map (·.2.1) ∧ (mapSet keq k v E).map (·.1) = E.map (·.1)
  | [] => ⟨rfl, rfl⟩
  | e :: E => by
    have ⟨h1, h2⟩ := mapSet_maps (k := k) (v := v) (E := E)
    unfold mapSet
    by_cases hk : k = e.2.1
    · rw [keq_eq, decide_eq_true hk]
      simp [hk]
    · rw [keq_eq, decide_eq_false hk]
      simp only [cond_false, List.map_cons, h1, h2, and_self]
theorem mapGet_set {k k' : Int} {v : Nat} : ∀ {E : Ent}, (∃ u, mapGet keq k E = some u) → mapGet keq k' (mapSet keq k v E) = if k' = k then some v else mapGet keq k' E
  | [], h => by obtain ⟨_, h⟩ := h; cases h
  | e :: E, h => by
    unfold mapSet
    unfold mapGet at h
    by_cases hk : k = e.2.1
    · rw [keq_eq, decide_eq_true hk, cond_true]
      simp only [mapGet, keq_eq]
      by_cases hk' : k' = k
      · rw [decide_eq_true hk', if_pos hk']
        rfl
      · rw [decide_eq_false hk', if_neg hk', decide_eq_false (hk ▸ hk')]
        rfl
    · rw [keq_eq, decide_eq_false hk] at *
      simp only [cond_false, mapGet, keq_eq] at *
      rw [mapGet_set h]
      by_cases hk' : k' = e.2.1
      · have hn : ¬ k' = k := fun e2 => hk (e2.symm.trans hk')
        simp only [decide_eq_true hk', if_neg hn]
      · rw [decide_eq_false hk']
        rfl
theorem mapGet_cons {k : Int} {e : Nat × (Int × Nat)} {E : Ent} : mapGet keq k (e :: E) = bif keq k e.2.1 then some e.2.2 else mapGet keq k E := rfl
theorem mapGet_append {k : Int} {F : Ent} : ∀ {E : Ent}, mapGet keq k E = none → mapGet keq k (E ++ F) = mapGet keq k F
  | [], _ => rfl
  | e :: E, h => by
    rw [List.cons_append, mapGet_cons]
    rw [mapGet_cons] at h
    cases hk : keq k e.2.1 with
    | true => simp [hk] at h
    | false =>
      rw [hk, cond_false] at h
      rw [cond_false]
      exact mapGet_append h
theorem mapGet_append2 {k : Int} {F : Ent} {u : Nat} : ∀ {E : Ent}, mapGet keq k E = some u → mapGet keq k (E ++ F) = some u
  | e :: E, h => by
    rw [List.cons_append, mapGet_cons]
    rw [mapGet_cons] at h
    cases hk : keq k e.2.1 with
    | true => rwa [hk] at h
    | false =>
      rw [hk, cond_false] at h
      rw [cond_false]
      exact mapGet_append2 h

/-- A map that counts. -/
structure Counts (ns : List Int) (E : Ent) (c : Nat) : Prop where
  lt : ∀ e ∈ E, e.1 < c
  clocks : (E.map (·.1)).Nodup
  keys : (E.map (·.2.1)).Nodup
  get : ∀ k, mapGet keq k E = if k ∈ ns then some (fl (ns.count k)) else none
  len : E.length ≤ ns.length
theorem Counts.mem {ns : List Int} {E : Ent} {c : Nat} (h : Counts ns E c) (k : Int) : k ∈ E.map (·.2.1) ↔ k ∈ ns := by
  constructor
  · intro hk
    obtain ⟨v, hv⟩ := mapGet_mem hk
    rw [h.get] at hv
    by_cases hn : k ∈ ns
    · exact hn
    · rw [if_neg hn] at hv; cases hv
  · intro hn
    exact mapGet_some_mem ((h.get k).trans (if_pos hn))
theorem Counts.getD {ns : List Int} {E : Ent} {c : Nat} (h : Counts ns E c) (k : Int) : (mapGet keq k E).getD 0 = fl (ns.count k) := by
  rw [h.get]
  by_cases hn : k ∈ ns
  · rw [if_pos hn]; rfl
  · rw [if_neg hn, List.count_eq_zero.2 hn]; rfl
theorem Counts.nil : Counts [] [] 0 := ⟨by simp, by simp, by simp, by simp [mapGet], by simp⟩
theorem Counts.put {ns : List Int} {E : Ent} {c : Nat} (h : Counts ns E c) (k : Int) : Counts (ns ++ [k]) (mapPut keq k ((FloatKind.f64.format.add ((mapGet keq k E).getD 0) 4607182418800017408).getD 0) E c) (mapNext keq k E c) := by
  have hv : (FloatKind.f64.format.add ((mapGet keq k E).getD 0) 4607182418800017408).getD 0 = fl (ns.count k + 1) := by rw [h.getD]; rfl
  rw [hv]
  have hc : ∀ k', fl ((ns ++ [k]).count k') = if k' = k then fl (ns.count k + 1) else fl (ns.count k') := fun k' => by
    rw [List.count_append]
    by_cases e : k' = k
    · subst e
      simp
    · rw [if_neg e, List.count_eq_zero.2 (show k' ∉ [k] by simpa using e)]
      rfl
  unfold mapPut mapNext
  by_cases hk : k ∈ ns
  · have hg := h.get k
    rw [if_pos hk] at hg
    rw [hg]
    simp only [Option.isSome_some, cond_true]
    have ⟨m1, m2⟩ := mapSet_maps (k := k) (v := fl (ns.count k + 1)) (E := E)
    refine ⟨fun e he => ?_, by rw [m2]; exact h.clocks, by rw [m1]; exact h.keys, fun k' => ?_, ?_⟩
    · have : e.1 ∈ (mapSet keq k (fl (ns.count k + 1)) E).map (·.1) := List.mem_map.2 ⟨e, he, rfl⟩
      rw [m2] at this
      obtain ⟨e', he', e2⟩ := List.mem_map.1 this
      rw [← e2]
      exact h.lt e' he'
    · rw [mapGet_set ⟨_, hg⟩, h.get, hc]
      by_cases e : k' = k
      · subst e
        simp
      · by_cases h2 : k' ∈ ns <;> simp [e, h2]
    · have := congrArg List.length m2
      simp only [List.length_map] at this
      rw [this]
      have := h.len
      simp
      omega
  · have hg := h.get k
    rw [if_neg hk] at hg
    rw [hg]
    simp only [Option.isSome_none, cond_false]
    refine ⟨fun e he => ?_, ?_, ?_, fun k' => ?_, ?_⟩
    · rcases List.mem_append.1 he with he | he
      · have := h.lt e he
        omega
      · rw [List.mem_singleton.1 he]
        exact Nat.lt_succ_self c
    · rw [List.map_append]
      refine List.nodup_append.2 ⟨h.clocks, by simp, fun a ha b hb => ?_⟩
      obtain ⟨e, he, rfl⟩ := List.mem_map.1 ha
      have := h.lt e he
      simp at hb
      omega
    · rw [List.map_append]
      refine List.nodup_append.2 ⟨h.keys, by simp, fun a ha b hb => ?_⟩
      simp at hb
      subst hb
      rintro rfl
      exact hk ((h.mem _).1 ha)
    · cases hg2 : mapGet keq k' E with
      | none =>
        rw [mapGet_append hg2]
        simp only [mapGet, keq_eq]
        rw [h.get] at hg2
        have h2 : k' ∉ ns := fun h2 => by rw [if_pos h2] at hg2; cases hg2
        rw [hc]
        by_cases e : k' = k
        · subst e
          simp
        · simp [e, h2]
      | some u =>
        rw [mapGet_append2 hg2, ← hg2, h.get, hc]
        have h2 : k' ∈ ns := by
          rw [h.get] at hg2
          by_cases h2 : k' ∈ ns
          · exact h2
          · rw [if_neg h2] at hg2; cases hg2
        have e : k' ≠ k := fun e => hk (e ▸ h2)
        simp [e, h2]
    · have := h.len
      simp
      omega

/-- The links, in order. -/
noncomputable def ksOf (E : Ent) : List Int := (E.map (·.2.1)).mergeSort fun x y => decide (x ≤ y)
theorem ksOf_sorted {ns : List Int} {E : Ent} {c : Nat} (h : Counts ns E c) : (ksOf E).Pairwise (· < ·) ∧ ∀ k, k ∈ ksOf E ↔ k ∈ ns := by
  have hp : (ksOf E).Perm (E.map (·.2.1)) := List.mergeSort_perm _ _
  have hs : (ksOf E).Pairwise fun x y => decide (x ≤ y) = true := List.pairwise_mergeSort (fun a b c h1 h2 => by simp at *; omega) (fun a b => by simp; omega) _
  have hd : (ksOf E).Nodup := hp.nodup_iff.2 h.keys
  refine ⟨(hs.and hd).imp fun {x y} hxy => by have h1 := of_decide_eq_true hxy.1; have h2 := hxy.2; omega, fun k => ?_⟩
  rw [hp.mem_iff, h.mem]
theorem sortedKeys_eq {ns : List Int} {E : Ent} {c : Nat} (h : Counts ns E c) (hr : ∀ n ∈ ns, 0 ≤ n ∧ n ≤ 1000000) (hn : ns.length ≤ 1000) : sortedKeys E c = some (ksOf E) := by
  unfold sortedKeys
  refine if_pos ⟨h.lt, h.clocks, h.keys, fun e he => ?_, ?_⟩
  · have := hr _ ((h.mem e.2.1).1 (List.mem_map.2 ⟨e, he, rfl⟩))
    omega
  · have := h.len
    omega
end BE
