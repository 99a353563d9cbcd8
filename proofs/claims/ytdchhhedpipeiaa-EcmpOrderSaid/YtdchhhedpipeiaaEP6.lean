/- Plain: hops. -/
import Derived.Test.YtdchhhedpipeiaaEP5
set_option linter.unusedVariables false
set_option linter.unusedSimpArgs false
namespace BE
open Go Go.Ev
variable {l : List T41} {links : List Int}

/-- What is told of links and their shares. -/
def hopsOf (ks ss : List Int) : List T44 := (ks.zip ss).filter fun p => decide (p.2 > 0)
theorem l16_eq (w : Int) {ks ss : List Int} (h : ss.length = ks.length) (hlen : ks.length < 1000000) : Hops.l16 Set.F Shares.F FU l links w ks FU (((ss.length : Nat) : Int), 0, [], ss) = some (hopsOf ks ss, ()) := by
  unfold Hops.l16
  rw [iterN_eq (F := fun t : Int × Int × List T44 × List Int => some (t.2.2.1 ++ hopsOf (ks.drop t.2.1.toNat) (ss.drop t.2.1.toNat), ()))
    (fun t : Int × Int × List T44 × List Int => t.1 = ((ss.length : Nat) : Int) ∧ t.2.2.2 = ss ∧ ∃ i : Nat, t.2.1 = (i : Int) ∧ i ≤ ss.length ∧ t.2.2.1.length ≤ i) (fun t : Int × Int × List T44 × List Int => ss.length - t.2.1.toNat)]
  · rfl
  · rintro ⟨len, idx, out, ss'⟩ k ⟨h1, h2, i, hi, hle, hol⟩ hk
    have h2 : ss' = ss := h2
    subst h2
    have h1 : len = ((ss'.length : Nat) : Int) := h1
    have hi : idx = (i : Nat) := hi
    have hol : out.length ≤ i := hol
    subst h1 hi
    unfold Hops.b16
    simp only
    by_cases hlt : i < ss'.length
    · have hks : i < ks.length := by omega
      rw [decide_eq_true (show (i : Int) < (ss'.length : Nat) by omega), decide_eq_true (show (0 : Int) ≤ (i : Nat) by omega), decide_eq_true (show (i : Int) < (ks.length : Nat) by omega),
        decide_eq_true (show (out.length + 1) * 16 ≤ maxBytes by unfold maxBytes; omega), wrap_succ hlt (by omega)]
      simp only [cond_true, Bool.and_self, Int.toNat_natCast]
      have e : hopsOf (ks.drop i) (ss'.drop i) = bif decide (ss'.getD i 0 > 0) then (ks.getD i 0, ss'.getD i 0) :: hopsOf (ks.drop (i + 1)) (ss'.drop (i + 1)) else hopsOf (ks.drop (i + 1)) (ss'.drop (i + 1)) := by
        rw [drop_getD hlt 0, drop_getD hks 0]
        unfold hopsOf
        rw [List.zip_cons_cons, List.filter_cons]
        cases decide (ss'.getD i 0 > 0) <;> rfl
      rw [e]
      cases decide (ss'.getD i 0 > 0) with
      | true =>
        simp only [cond_true]
        rw [hk _ ⟨rfl, rfl, i + 1, rfl, hlt, by simp; omega⟩ (by simp; omega)]
        simp
      | false =>
        simp only [cond_false]
        rw [hk _ ⟨rfl, rfl, i + 1, rfl, hlt, by simp; omega⟩ (by simp; omega)]
        simp
    · rw [decide_eq_false (show ¬ (i : Int) < (ss'.length : Nat) by omega)]
      have : i = ss'.length := by omega
      subst this
      simp [hopsOf]
  · exact ⟨rfl, rfl, 0, rfl, Nat.zero_le _, Nat.le_refl _⟩
  · exact FU_lt (by simp; omega)
theorem l18_eq (w : Int) {ks ss : List Int} (h : ss.length = ks.length) (hlen : ks.length < 1000000) : rHops.l18 rSet.F rShares.F FU l links w ks FU (0, ss, []) = some (hopsOf ks ss, ()) := by
  unfold rHops.l18
  rw [iterN_eq (F := fun t : Int × List Int × List T44 => some (t.2.2 ++ hopsOf (ks.drop t.1.toNat) (ss.drop t.1.toNat), ()))
    (fun t : Int × List Int × List T44 => t.2.1 = ss ∧ ∃ i : Nat, t.1 = (i : Int) ∧ i ≤ ss.length ∧ t.2.2.length ≤ i) (fun t : Int × List Int × List T44 => ss.length - t.1.toNat)]
  · rfl
  · rintro ⟨idx, ss', out⟩ k ⟨h2, i, hi, hle, hol⟩ hk
    have h2 : ss' = ss := h2
    have hi : idx = (i : Nat) := hi
    have hol : out.length ≤ i := hol
    subst h2 hi
    unfold rHops.b18
    simp only
    by_cases hlt : i < ss'.length
    · have hks : i < ks.length := by omega
      rw [decide_eq_true (show (i : Int) < (ss'.length : Nat) by omega), decide_eq_true (show (0 : Int) ≤ (i : Nat) by omega), decide_eq_true (show (i : Int) < (ks.length : Nat) by omega),
        decide_eq_true (show (out.length + 1) * 16 ≤ maxBytes by unfold maxBytes; omega), wrap_succ hlt (by omega)]
      simp only [cond_true, Bool.and_self, Int.toNat_natCast]
      have e : hopsOf (ks.drop i) (ss'.drop i) = bif decide (ss'.getD i 0 > 0) then (ks.getD i 0, ss'.getD i 0) :: hopsOf (ks.drop (i + 1)) (ss'.drop (i + 1)) else hopsOf (ks.drop (i + 1)) (ss'.drop (i + 1)) := by
        rw [drop_getD hlt 0, drop_getD hks 0]
        unfold hopsOf
        rw [List.zip_cons_cons, List.filter_cons]
        cases decide (ss'.getD i 0 > 0) <;> rfl
      rw [e]
      cases decide (ss'.getD i 0 > 0) with
      | true =>
        simp only [cond_true]
        rw [hk _ ⟨rfl, i + 1, rfl, hlt, by simp; omega⟩ (by simp; omega)]
        simp
      | false =>
        simp only [cond_false]
        rw [hk _ ⟨rfl, i + 1, rfl, hlt, by simp; omega⟩ (by simp; omega)]
        simp
    · rw [decide_eq_false (show ¬ (i : Int) < (ks.length : Nat) by omega)]
      have : i = ss'.length := by omega
      subst this
      simp [hopsOf]
  · exact ⟨rfl, 0, rfl, Nat.zero_le _, Nat.le_refl _⟩
  · exact FU_lt (by simp; omega)

/-- The links of places. -/
def nsOf (links S : List Int) : List Int := S.map fun n => links.getD n.toNat 0
theorem l10_eq (w : Int) {ns : List Int} {E : Ent} {c : Nat} (hc : Counts ns E c) (hns : ns.length ≤ 8) :
    Hops.l10 Set.F Shares.F FU l links w E c (ksOf E) FU ((((ksOf E).length : Nat) : Int), 0, []) = some (hopsOf (ksOf E) (shOf ((ksOf E).map fun k => ns.count k)), ()) := by
  have hso := ksOf_sorted hc
  have hkl : (ksOf E).length ≤ ns.length := by
    unfold ksOf
    rw [List.length_mergeSort, List.length_map]
    exact hc.len
  have hks : ∀ k ∈ ksOf E, k ∈ ns := fun k hk => (hso.2 k).1 hk
  have hsum := sum_counts (ks := ksOf E) (ns := ns) (hso.1.imp fun {a b} h => by omega) fun n hn => (hso.2 n).2 hn
  have hsh := shares_eq (c := (ksOf E).map fun k => ns.count k) (fun x hx => by
    obtain ⟨k, hk, rfl⟩ := List.mem_map.1 hx
    exact List.count_pos_iff.2 (hks k hk)) (by omega)
  generalize hK : ksOf E = ks at *
  unfold Hops.l10
  rw [iterN_eq (F := fun t : Int × Int × List Nat => some (hopsOf ks (shOf (ks.map fun k => ns.count k)), ()))
    (fun t : Int × Int × List Nat => t.1 = ((ks.length : Nat) : Int) ∧ ∃ i : Nat, t.2.1 = (i : Int) ∧ i ≤ ks.length ∧ t.2.2 = (ks.take i).map fun k => fl (ns.count k)) (fun t : Int × Int × List Nat => ks.length - t.2.1.toNat)]
  · rintro ⟨len, idx, out⟩ k ⟨h1, i, hi, hle, ho⟩ hk
    have h1 : len = ((ks.length : Nat) : Int) := h1
    have hi : idx = (i : Nat) := hi
    have ho : out = (ks.take i).map fun k => fl (ns.count k) := ho
    subst h1 hi ho
    unfold Hops.b10
    simp only
    by_cases hlt : i < ks.length
    · rw [decide_eq_true (show (i : Int) < (ks.length : Nat) by omega), decide_eq_true (show (0 : Int) ≤ (i : Nat) by omega),
        decide_eq_true (show (((ks.take i).map fun k => fl (ns.count k)).length + 1) * 8 ≤ maxBytes by unfold maxBytes; simp; omega), wrap_succ hlt (by omega)]
      simp only [cond_true, Bool.and_self, Int.toNat_natCast]
      refine hk _ ⟨rfl, i + 1, rfl, hlt, ?_⟩ (by simp; omega)
      show _ ++ [(mapGet keq (ks.getD i 0) E).getD 0] = _
      rw [hc.getD, List.take_succ_eq_append_getElem hlt, List.map_append, show ks.getD i 0 = ks[i] from by rw [List.getD_eq_getElem?_getD, List.getElem?_eq_getElem hlt]; rfl]
      rfl
    · rw [decide_eq_false (show ¬ (i : Int) < (ks.length : Nat) by omega), cond_false]
      have : i = ks.length := by omega
      subst this
      rw [List.take_length]
      have e : (ks.map fun k => fl (ns.count k)) = (ks.map fun k => ns.count k).map fl := by rw [List.map_map]; rfl
      rw [e, hsh.1]
      simp only [Option.bind_some]
      exact l16_eq w (by rw [hsh.2.2, List.length_map]) (by omega)
  · exact ⟨rfl, 0, rfl, Nat.zero_le _, rfl⟩
  · exact FU_lt (by simp; omega)
theorem take_map_succ {α β : Type} {S : List α} {i : Nat} (h : i < S.length) (f : α → β) (d : α) : (S.take (i + 1)).map f = (S.take i).map f ++ [f (S.getD i d)] := by
  rw [List.take_succ_eq_append_getElem h, List.map_append, show S.getD i d = S[i] from by rw [List.getD_eq_getElem?_getD, List.getElem?_eq_getElem h]; rfl]
  rfl

/-! Insertion of a link -/
def insP (n : Int) : List (Int × Nat) → List (Int × Nat)
  | [] => [(n, 4607182418800017408)]
  | p :: P => bif decide (p.1 < n) then p :: insP n P else bif p.1 == n then (p.1, (FloatKind.f64.format.add p.2 4607182418800017408).getD 0) :: P else (n, 4607182418800017408) :: p :: P
structure Ins (ns : List Int) (P : List (Int × Nat)) : Prop where
  sor : (P.map (·.1)).Pairwise (· < ·)
  mem : ∀ k, k ∈ P.map (·.1) ↔ k ∈ ns
  val : ∀ p ∈ P, p.2 = fl (ns.count p.1)
theorem insP_keys {n : Int} : ∀ {P : List (Int × Nat)} (k : Int), k ∈ (insP n P).map (·.1) ↔ k = n ∨ k ∈ P.map (·.1)
  | [], k => by simp [insP]
  | p :: P, k => by
    unfold insP
    cases decide (p.1 < n) with
    | true =>
      simp only [cond_true, List.map_cons, List.mem_cons, insP_keys k]
      constructor <;> (rintro (h | h | h) <;> simp [h])
    | false =>
      cases h : p.1 == n with
      | true =>
        simp only [beq_iff_eq] at h
        simp [h]
      | false => simp
theorem insP_sor {n : Int} : ∀ {P : List (Int × Nat)}, (P.map (·.1)).Pairwise (· < ·) → ((insP n P).map (·.1)).Pairwise (· < ·)
  | [], _ => by simp [insP]
  | p :: P, h => by
    have ⟨h1, h2⟩ := List.pairwise_cons.1 h
    unfold insP
    by_cases hl : p.1 < n
    · rw [decide_eq_true hl, cond_true]
      refine List.pairwise_cons.2 ⟨fun k hk => ?_, insP_sor h2⟩
      rcases (insP_keys k).1 hk with e | e
      · exact e ▸ hl
      · exact h1 k e
    · rw [decide_eq_false hl, cond_false]
      cases he : p.1 == n with
      | true => exact h
      | false =>
        refine List.pairwise_cons.2 ⟨fun k hk => ?_, h⟩
        have hne : ¬ p.1 = n := by simpa using he
        show n < k
        rcases List.mem_cons.1 hk with e | e
        · rw [e]
          show n < p.1
          omega
        · have : p.1 < k := h1 k e
          omega
theorem insP_val {n : Int} {ns : List Int} : ∀ {P : List (Int × Nat)}, (P.map (·.1)).Pairwise (· < ·) → (∀ p ∈ P, p.2 = fl (ns.count p.1)) → (n ∉ P.map (·.1) → ns.count n = 0) → ∀ p ∈ insP n P, p.2 = fl ((ns ++ [n]).count p.1)
  | [], _, _, h0, p, hp => by
    simp only [insP, List.mem_singleton] at hp
    subst hp
    simp only [List.count_append, h0 (by simp)]
    simp
    exact fl_one
  | q :: P, hs, hv, h0, p, hp => by
    have ⟨h1, h2⟩ := List.pairwise_cons.1 hs
    have hne : ∀ r : Int × Nat, r.1 ≠ n → r.2 = fl (ns.count r.1) → r.2 = fl ((ns ++ [n]).count r.1) := fun r hr h => by
      rw [h, List.count_append, List.count_eq_zero.2 (show r.1 ∉ [n] by simpa using hr)]
      rfl
    unfold insP at hp
    by_cases hl : q.1 < n
    · rw [decide_eq_true hl, cond_true] at hp
      rcases List.mem_cons.1 hp with e | e
      · rw [e]
        exact hne q (by omega) (hv q (by simp))
      · exact insP_val h2 (fun r hr => hv r (by simp [hr])) (fun hn => h0 (by
          simp only [List.map_cons, List.mem_cons, not_or]
          exact ⟨by omega, hn⟩)) p e
    · rw [decide_eq_false hl, cond_false] at hp
      have hgt : ∀ r ∈ P, q.1 < r.1 := fun r hr => h1 r.1 (List.mem_map.2 ⟨r, hr, rfl⟩)
      by_cases he : q.1 = n
      · rw [show (q.1 == n) = true from by simpa using he, cond_true] at hp
        rcases List.mem_cons.1 hp with e | e
        · rw [e, hv q (by simp)]
          simp only [List.count_append, he]
          simp
          rfl
        · have := hgt p e
          exact hne p (by omega) (hv p (by simp [e]))
      · rw [show (q.1 == n) = false from by simpa using he, cond_false] at hp
        rcases List.mem_cons.1 hp with e | e
        · rw [e]
          simp only [List.count_append, h0 (by
            simp only [List.map_cons, List.mem_cons, not_or]
            refine ⟨fun e2 => he e2.symm, fun hm => ?_⟩
            obtain ⟨r, hr, e2⟩ := List.mem_map.1 hm
            have := hgt r hr
            omega)]
          simp
          exact fl_one
        · refine hne p ?_ (hv p e)
          rcases List.mem_cons.1 e with e2 | e2
          · rw [e2]; exact he
          · have := hgt p e2
            omega
theorem Ins.put {ns : List Int} {P : List (Int × Nat)} (h : Ins ns P) (n : Int) : Ins (ns ++ [n]) (insP n P) :=
  ⟨insP_sor h.sor, fun k => by rw [insP_keys, h.mem, List.mem_append, List.mem_singleton]; exact or_comm, insP_val h.sor h.val fun hn => List.count_eq_zero.2 fun hm => hn ((h.mem n).2 hm)⟩
theorem Ins.fold : ∀ (ms ns : List Int) (P : List (Int × Nat)), Ins ns P → Ins (ns ++ ms) (ms.foldl (fun P n => insP n P) P)
  | [], ns, P, h => by simpa using h
  | m :: ms, ns, P, h => by
    have := Ins.fold ms (ns ++ [m]) _ (h.put m)
    simpa using this
noncomputable def psN (ns : List Int) : List (Int × Nat) := ns.foldl (fun P n => insP n P) []
/-- The links there are, in order. -/
noncomputable def ksN (ns : List Int) : List Int := (psN ns).map (·.1)
theorem psN_ins (ns : List Int) : Ins ns (psN ns) := by
  exact Ins.fold ns [] [] ⟨by simp, by simp, by simp⟩
theorem psN_snd (ns : List Int) : (psN ns).map (·.2) = ((ksN ns).map fun k => ns.count k).map fl := by
  unfold ksN
  rw [List.map_map, List.map_map]
  exact List.map_congr_left (psN_ins ns).val
theorem ksOf_eq {ns : List Int} {E : Ent} {c : Nat} (h : Counts ns E c) : ksOf E = ksN ns :=
  sorted_unique (ksOf_sorted h).1 (psN_ins ns).sor fun k => by rw [(ksOf_sorted h).2, ← (psN_ins ns).mem]; rfl
/-- The hops of links. -/
noncomputable def hopsN (ns : List Int) : List T44 := hopsOf (ksN ns) (shOf ((ksN ns).map fun k => ns.count k))

theorem nsOf_succ {S : List Int} {i : Nat} (h : i < S.length) : nsOf links (S.take (i + 1)) = nsOf links (S.take i) ++ [links.getD (S.getD i 0).toNat 0] := take_map_succ h _ 0
theorem nsOf_take_length {S : List Int} (i : Nat) : (nsOf links (S.take i)).length ≤ S.length := by
  unfold nsOf
  rw [List.length_map, List.length_take]
  omega
theorem count_le_len (ns : List Int) (k : Int) : ns.count k ≤ ns.length := List.count_le_length
theorem Hops_eq {S : List Int} (w : Int) (hS : Set.F (l, links, w, ()) = some (S, ())) (hin : ∀ n ∈ S, 0 ≤ n ∧ n < (links.length : Nat)) (hS8 : S.length ≤ 8) (hr : ∀ n ∈ links, 0 ≤ n ∧ n ≤ 1000000) :
    Hops.F (l, links, w, ()) = some (hopsN (nsOf links S), ()) := by
  have key : Hops.l3 Set.F Shares.F FU l links w FU (((S.length : Nat) : Int), 0, [], 0, S) = some (hopsN (nsOf links S), ()) := by
    unfold Hops.l3
    rw [iterN_eq (F := fun _ : Int × Int × Ent × Nat × List Int => some (hopsN (nsOf links S), ()))
      (fun t : Int × Int × Ent × Nat × List Int => t.1 = ((S.length : Nat) : Int) ∧ t.2.2.2.2 = S ∧ ∃ i : Nat, t.2.1 = (i : Int) ∧ i ≤ S.length ∧ Counts (nsOf links (S.take i)) t.2.2.1 t.2.2.2.1) (fun t : Int × Int × Ent × Nat × List Int => S.length - t.2.1.toNat)]
    · rintro ⟨len, idx, E, c, S'⟩ k ⟨h1, h2, i, hi, hle, hc⟩ hk
      have h2 : S' = S := h2
      subst h2
      have h1 : len = ((S'.length : Nat) : Int) := h1
      have hi : idx = (i : Nat) := hi
      have hc : Counts (nsOf links (S'.take i)) E c := hc
      subst h1 hi
      unfold Hops.b3
      simp only
      by_cases hlt : i < S'.length
      · have hp := hin _ (getD_mem hlt 0)
        rw [decide_eq_true (show (i : Int) < (S'.length : Nat) by omega), decide_eq_true (show (0 : Int) ≤ (i : Nat) by omega), wrap_succ hlt (by omega)]
        simp only [cond_true, Bool.and_self, Int.toNat_natCast]
        rw [decide_eq_true hp.1, decide_eq_true hp.2]
        simp only [cond_true, Bool.and_self]
        have hadd : (FloatKind.f64.format.add ((mapGet (keyEq ty2) (links.getD (S'.getD i 0).toNat 0) E).getD 0) 4607182418800017408).isSome = true := by
          show (FloatKind.f64.format.add ((mapGet keq (links.getD (S'.getD i 0).toNat 0) E).getD 0) 4607182418800017408).isSome = true
          rw [hc.getD]
          refine fl_add ?_
          have h1 := count_le_len (nsOf links (S'.take i)) (links.getD (S'.getD i 0).toNat 0)
          have h2 := nsOf_take_length (links := links) (S := S') i
          omega
        rw [hadd, cond_true]
        refine hk _ ⟨rfl, rfl, i + 1, rfl, hlt, ?_⟩ (by simp; omega)
        rw [nsOf_succ hlt]
        exact hc.put _
      · rw [decide_eq_false (show ¬ (i : Int) < (S'.length : Nat) by omega), cond_false]
        have : i = S'.length := by omega
        subst this
        rw [List.take_length] at hc
        have hn8 : (nsOf links S').length ≤ 8 := by unfold nsOf; rw [List.length_map]; exact hS8
        rw [sortedKeys_eq hc (fun n hn => by
          obtain ⟨m, hm, rfl⟩ := List.mem_map.1 hn
          have := hin m hm
          exact hr _ (getD_mem (by omega) 0)) (by omega)]
        simp only [Option.bind_some]
        rw [l10_eq w hc hn8, ksOf_eq hc]
        rfl
    · exact ⟨rfl, rfl, 0, rfl, Nat.zero_le _, Counts.nil⟩
    · exact FU_lt (by simp; omega)
  show Hops.b Set.F Shares.F l links w _ = _
  unfold Hops.b
  rw [hS]
  simp only [Option.bind_some]
  exact key
end BE
