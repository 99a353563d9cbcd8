/- Plain: one that is better than all. -/
import Derived.Test.YtdchhhedpipeiaaEP12
set_option linter.unusedVariables false
set_option linter.unusedSimpArgs false
namespace BE
open Go Go.Ev
variable {l : List T41} {ps : List Int}

abbrev bestC : T41 := ((0, 77, 0, false, 0, [], 0, false, 0, true, 1073741824, false, []), 0)
theorem best_few : FewC bestC := ⟨(by omega : (0 : Nat) < 1000), by
  have : (0 : Nat) = FloatKind.f64.nearest 0 := by kernel_rfl
  show (0 : Nat) ∈ costs
  unfold costs
  rw [← this]
  simp⟩
theorem bt_one {a b : T41} (ha : Fit a) (hb : Fit b) : bt a b 1 = decide (prefD a.1.2.2.2.2 < prefD b.1.2.2.2.2) := by
  have h := beats_eq 1 ha hb
  have h2 : beats.F (a, b, 1, ()) = some (decide (prefD a.1.2.2.2.2 < prefD b.1.2.2.2.2), ()) := by
    show beats.b Pref.F Count.F fellows.F med.F Less.F Ahead.F a b 1 = _
    unfold beats.b
    rw [Pref_eq, Pref_eq]
    rfl
  rw [h] at h2
  exact (Prod.mk.inj (Option.some.inj h2)).1
/-- A row with one that is better than all others. -/
structure Top (l : List T41) (m : Nat) : Prop where
  few : ∀ a ∈ l, FewC a
  lt : m < l.length
  top : ∀ n : Nat, n < l.length → n ≠ m → prefD (l.getD n ty41.dflt).1.2.2.2.2 < prefD (l.getD m ty41.dflt).1.2.2.2.2
theorem filter_one {p : Int → Bool} {m : Int} : ∀ {l : List Int}, l.Nodup → m ∈ l → (∀ n ∈ l, p n = decide (n = m)) → l.filter p = [m]
  | [], _, h, _ => by cases h
  | n :: l, hd, hm, hp => by
    have ⟨h1, h2⟩ := List.nodup_cons.1 hd
    rw [List.filter_cons, hp n (by simp)]
    by_cases e : n = m
    · rw [if_pos (decide_eq_true e), e]
      congr 1
      refine List.filter_eq_nil_iff.2 fun k hk => ?_
      rw [hp k (by simp [hk])]
      have : k ≠ m := fun e2 => h1 (by rw [e, ← e2]; exact hk)
      simpa using this
    · rw [if_neg (by simpa using e)]
      exact filter_one h2 ((List.mem_cons.1 hm).resolve_left fun e2 => e e2.symm) fun k hk => hp k (by simp [hk])
theorem range_nodup (n : Nat) : ((List.range n).map fun i : Nat => (i : Int)).Nodup := by
  refine List.pairwise_map.2 ((List.nodup_range (n := n)).imp fun {a b} h e => h (by omega))
theorem top_left {m : Nat} (h : Top l m) : ∀ k, k < 6 → leftN l (k + 1) = [(m : Int)]
  | 0, _ => by
    show siftD l (leftN l 0) 1 = _
    unfold siftD
    rw [if_neg (by omega)]
    have hin := leftN_in (l := l) 0
    have hmem : (m : Int) ∈ leftN l 0 := List.mem_map.2 ⟨m, List.mem_range.2 h.lt, rfl⟩
    refine filter_one (range_nodup _) hmem fun n hn => ?_
    obtain ⟨i, hi, rfl⟩ := List.mem_map.1 hn
    have hi := List.mem_range.1 hi
    have fa : ∀ k ∈ leftN l 0, Fit (at_ l k) := fun k hk => (few_at h.few (hin k hk)).fit
    by_cases e : i = m
    · subst e
      rw [decide_eq_true rfl, Bool.not_eq_true', List.any_eq_false]
      intro k hk
      rw [bt_one (fa _ hmem) (fa k hk)]
      obtain ⟨j, hj, rfl⟩ := List.mem_map.1 hk
      have hj := List.mem_range.1 hj
      by_cases e2 : j = i
      · subst e2
        simp
      · have := h.top j hj e2
        rw [decide_eq_true_eq]
        show ¬ prefD (l.getD ((i : Nat) : Int).toNat ty41.dflt).1.2.2.2.2 < prefD (l.getD ((j : Nat) : Int).toNat ty41.dflt).1.2.2.2.2
        rw [Int.toNat_natCast, Int.toNat_natCast]
        omega
    · rw [decide_eq_false (by omega), Bool.not_eq_false', List.any_eq_true]
      refine ⟨(m : Int), hmem, ?_⟩
      rw [bt_one (fa _ hn) (fa _ hmem)]
      have := h.top i hi e
      unfold at_
      simp only [Int.toNat_natCast]
      simpa using this
  | k + 1, hk => by
    have ih := top_left h k (by omega)
    show siftD l (leftN l (k + 1)) ((k + 1 + 1 : Nat) : Int) = _
    rw [ih]
    unfold siftD sf
    rw [if_neg (by omega)]
    have fa : FewC (at_ l (m : Int)) := few_at h.few ⟨by omega, by have := h.lt; omega⟩
    have hb : bt (at_ l (m : Int)) (at_ l (m : Int)) ((k + 1 + 1 : Nat) : Int) = false := by
      cases hb : bt (at_ l (m : Int)) (at_ l (m : Int)) ((k + 1 + 1 : Nat) : Int) with
      | false => rfl
      | true => have := bt_key fa fa (by omega) (by omega) hb; omega
    simp only [List.filter_cons, List.any_cons, List.any_nil, hb, Bool.or_false, Bool.not_false, if_true, List.filter_nil]
theorem top_set {m : Nat} (h : Top l m) {links : List Int} (hl : links.length = l.length) {w : Int} (h1 : 1 ≤ w) (h8 : w ≤ 8) : setD l links w = [(m : Int)] := by
  rw [setD_take hl h1 h8]
  unfold allD
  rw [top_left h 5 (by omega)]
  obtain ⟨n, hn⟩ : ∃ n, w.toNat = n + 1 := ⟨w.toNat - 1, by omega⟩
  have : insAll (ltS l) [(m : Int)] = [(m : Int)] := by
    unfold insAll
    simp [insRev]
  rw [hn, this]
  simp
theorem hopsN_single (n : Int) : hopsN [n] = [(n, 16)] := by
  have h1 : ksN [n] = [n] := rfl
  unfold hopsN
  rw [h1]
  have h2 : (([n] : List Int).map fun k => [n].count k) = [1] := by simp
  rw [h2, show shOf [1] = [16] from by kernel_rfl]
  rfl
theorem few_pref (r : List T53) : ∀ a ∈ candsD true r, prefD a.1.2.2.2.2 = 100 := fun a ha => by
  obtain ⟨i, _, rfl⟩ := List.mem_map.1 ha
  rfl
theorem mid_getD {α : Type} (c : List α) (x d : α) {m : Nat} (hm : m ≤ c.length) (n : Nat) (hn : n < c.length + 1) : (n = m → (c.take m ++ [x] ++ c.drop m).getD n d = x) ∧ (n ≠ m → (c.take m ++ [x] ++ c.drop m).getD n d ∈ c) := by
  have hl : (c.take m).length = m := by simp; omega
  constructor
  · intro e
    subst e
    rw [List.getD_eq_getElem?_getD, List.append_assoc, List.getElem?_append_right (by omega), hl]
    simp
  · intro e
    rw [List.getD_eq_getElem?_getD, List.append_assoc]
    by_cases h : n < m
    · rw [List.getElem?_append_left (by omega), List.getElem?_take, if_pos h, List.getElem?_eq_getElem (by omega)]
      exact List.getElem_mem _
    · rw [List.getElem?_append_right (by omega), hl]
      obtain ⟨q, hq⟩ : ∃ q, n - m = q + 1 := ⟨n - m - 1, by omega⟩
      rw [hq, List.singleton_append, List.getElem?_cons_succ, List.getElem?_drop, List.getElem?_eq_getElem (by omega)]
      exact List.getElem_mem _
theorem Alone_eq (r : List T53) (a b : Int) : Alone.F (r, a, b, ()) = some (true, ()) := by
  have hA := Within_eq a 0 255 (by omega) (by omega) (by omega)
  have hB := Within_eq b 1 8 (by omega) (by omega) (by omega)
  have hcl := candsD_length true r
  have hll := linksD_length r
  have hlr := linksD_in r
  have hfew := candsD_few r
  have hpref := few_pref r
  show Alone.b cands.F Within.F Hops.F SameH.F Set.F SameI.F known.F r a b (fun t => Alone.l6 cands.F Within.F Hops.F SameH.F Set.F SameI.F known.F FU r a b FU t) = _
  unfold Alone.b
  rw [cands_eq, hA.1, hB.1]
  simp only [Option.bind_some]
  generalize hc : candsD true r = c at *
  generalize hlk : linksD r = links at *
  generalize hkk : withinD a 0 255 = kk at *
  generalize hww : withinD b 1 8 = w at *
  unfold Alone.l6
  rw [iterN_eq (F := fun _ => some (true, ()))
    (fun s => ∃ m : Nat, m ≤ c.length + 1 ∧ s = (kk, w, (m : Int), (0 : Int), (77 : Int), (0 : Int), false, (0 : Int), (0 : Int), false, (0 : Int), true, (1073741824 : Int), false, (0 : Nat), c, links)) (fun s => c.length + 1 - s.2.2.1.toNat)]
  · rintro _ k ⟨m, hm, rfl⟩ hk
    unfold Alone.b6
    simp only
    by_cases hlt : m ≤ c.length
    · have hk' := hk _ ⟨m + 1, by omega, rfl⟩ (by simp; omega)
      have hlinks : links.length = c.length := by omega
      rw [decide_eq_true (show (m : Int) ≤ (c.length : Nat) by omega), decide_eq_true (show (0 : Int) ≤ (m : Nat) by omega), decide_eq_true (show ((c.length : Nat) : Int) ≤ (c.length : Nat) by omega), decide_eq_true (show (m : Int) ≤ (links.length : Nat) by omega),
        decide_eq_true (show ((links.length : Nat) : Int) ≤ (links.length : Nat) by omega), show IntKind.i64.wrap ((m : Int) + 1) = ((m + 1 : Nat) : Int) from wrap_succ (n := 100) (by omega) (by omega)]
      simp only [Int.toNat_natCast, List.drop_zero, Nat.sub_zero, List.nil_append, Nat.zero_add, Bool.and_self, cond_true]
      rw [show (c.drop m).take (c.length - m) = c.drop m from List.take_of_length_le (by simp), show (links.drop m).take (links.length - m) = links.drop m from List.take_of_length_le (by simp)]
      rw [decide_eq_true (show (c.take m).length * 112 ≤ maxBytes by unfold maxBytes; simp; omega), decide_eq_true (show ((c.take m).length + 1) * 112 ≤ maxBytes by unfold maxBytes; simp; omega),
        decide_eq_true (show (links.take m).length * 8 ≤ maxBytes by unfold maxBytes; simp; omega), decide_eq_true (show ((links.take m).length + 1) * 8 ≤ maxBytes by unfold maxBytes; simp; omega),
        decide_eq_true (show ((links.take m ++ [kk]).length + (links.drop m).length) * 8 ≤ maxBytes by unfold maxBytes; simp; omega)]
      have hbig : ((c.take m ++ [bestC]).length + (c.drop m).length) * 112 ≤ maxBytes := by unfold maxBytes; simp; omega
      rw [decide_eq_true hbig]
      simp only [cond_true]
      have hT : Top (c.take m ++ [bestC] ++ c.drop m) m := by
        refine ⟨fun a ha => ?_, by simp; omega, fun n hn hne => ?_⟩
        · rw [List.append_assoc] at ha
          rcases List.mem_append.1 ha with h | h
          · exact hfew a (List.mem_of_mem_take h)
          · rcases List.mem_append.1 h with h | h
            · rw [List.mem_singleton.1 h]; exact best_few
            · exact hfew a (List.mem_of_mem_drop h)
        · have hn' : n < c.length + 1 := by
            simp at hn
            omega
          rw [(mid_getD c bestC ty41.dflt hlt m (by omega)).1 rfl, hpref _ ((mid_getD c bestC ty41.dflt hlt n hn').2 hne)]
          show (100 : Int) < 1073741824
          omega
      have hdl : (c.take m ++ [bestC] ++ c.drop m).length = c.length + 1 := by simp; omega
      have hml : (links.take m ++ [kk] ++ links.drop m).length = (c.take m ++ [bestC] ++ c.drop m).length := by simp; omega
      have hset := top_set hT hml hB.2.1 hB.2.2
      have hfit : ∀ a ∈ c.take m ++ [bestC] ++ c.drop m, Fit a := fun a ha => (hT.few a ha).fit
      have hlr2 : ∀ n ∈ links.take m ++ [kk] ++ links.drop m, 0 ≤ n ∧ n ≤ 1000000 := fun n hn => by
        rw [List.append_assoc] at hn
        rcases List.mem_append.1 hn with h | h
        · exact hlr n (List.mem_of_mem_take h)
        · rcases List.mem_append.1 h with h | h
          · rw [List.mem_singleton.1 h]; omega
          · exact hlr n (List.mem_of_mem_drop h)
      have hops : hopsD (c.take m ++ [bestC] ++ c.drop m) (links.take m ++ [kk] ++ links.drop m) w = [(kk, 16)] := by
        unfold hopsD
        rw [hset]
        have : nsOf (links.take m ++ [kk] ++ links.drop m) [(m : Int)] = [kk] := by
          unfold nsOf
          simp only [List.map_cons, List.map_nil, Int.toNat_natCast]
          rw [(mid_getD links kk 0 (by omega) m (by omega)).1 rfl]
        rw [this]
        exact hopsN_single kk
      rw [hopsD_eq hfit (by omega) hlr2 w, hops, Set_eq hfit (by omega), hset]
      simp only [Option.bind_some]
      rw [SameH_eq _ _ (by simp), SameI_eq _ _ (by simp)]
      simp only [Option.bind_some, decide_true, Bool.not_true, cond_false]
      exact hk'
    · rw [decide_eq_false (show ¬ (m : Int) ≤ (c.length : Nat) by omega), cond_false, known_eq]
      rfl
  · exact ⟨0, Nat.zero_le _, rfl⟩
  · exact FU_lt (by simp; omega)
end BE
