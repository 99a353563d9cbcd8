/- Plain: the rules of shares. -/
import Derived.Test.YtdchhhedpipeiaaEP11
set_option linter.unusedVariables false
set_option linter.unusedSimpArgs false
namespace BE
open Go Go.Ev

noncomputable def chkSh (c : List Nat) (l : List Int) : Bool := decide (l.sum = 16) && (c.zip l).all fun p => decide (0 ≤ p.2) && decide (Int.tdiv (16 * (p.1 : Int)) (c.sum : Nat) ≤ p.2) && decide (p.2 ≤ Int.tdiv (16 * (p.1 : Int)) (c.sum : Nat) + 1)
noncomputable def okSh2 (c : List Nat) : Bool := match c with
  | [] => true
  | x :: r => chkSh (x :: r) (shOf (x :: r))
theorem sh2_all : (comps 8 8).all okSh2 = true := by kernel_rfl
theorem sh2 {c : List Nat} (hne : c ≠ []) (h1 : ∀ x ∈ c, 1 ≤ x) (h2 : c.sum ≤ 8) : (shOf c).sum = 16 ∧ ∀ p ∈ c.zip (shOf c), 0 ≤ p.2 ∧ Int.tdiv (16 * (p.1 : Int)) (c.sum : Nat) ≤ p.2 ∧ p.2 ≤ Int.tdiv (16 * (p.1 : Int)) (c.sum : Nat) + 1 := by
  have hl : ∀ c : List Nat, (∀ x ∈ c, 1 ≤ x) → c.length ≤ c.sum := by
    intro c
    induction c with
    | nil => simp
    | cons x c ih =>
      intro h
      have := h x (by simp)
      have := ih fun y hy => h y (by simp [hy])
      simp only [List.length_cons, List.sum_cons]
      omega
  have := hl c h1
  have h := List.all_eq_true.1 sh2_all c (mem_comps 8 8 c (by omega) h1 h2)
  match c, hne with
  | x :: r, _ =>
    have h : chkSh (x :: r) (shOf (x :: r)) = true := h
    unfold chkSh at h
    rw [Bool.and_eq_true, decide_eq_true_eq, List.all_eq_true] at h
    refine ⟨h.1, fun p hp => ?_⟩
    have := h.2 p hp
    simp only [Bool.and_eq_true, decide_eq_true_eq] at this
    exact ⟨this.1.1, this.1.2, this.2⟩

/-! ### What hops are like -/
variable {ns : List Int}
structure GoodHops (ns : List Int) (hops : List T44) : Prop where
  mem : ∀ p ∈ hops, 0 < ns.count p.1 ∧ 0 ≤ p.2 ∧ Int.tdiv (16 * (ns.count p.1 : Int)) (ns.length : Nat) ≤ p.2 ∧ p.2 ≤ Int.tdiv (16 * (ns.count p.1 : Int)) (ns.length : Nat) + 1
  sor : (hops.map (·.1)).Pairwise (· < ·)
  sum : (hops.map (·.2)).sum = 16
theorem sum_pos : ∀ (l : List T44), (∀ p ∈ l, 0 ≤ p.2) → ((l.filter fun p => decide (p.2 > 0)).map (·.2)).sum = (l.map (·.2)).sum
  | [], _ => rfl
  | p :: l, h => by
    have ih := sum_pos l fun q hq => h q (by simp [hq])
    have hp := h p (by simp)
    rw [List.filter_cons]
    by_cases h0 : p.2 > 0
    · rw [if_pos (decide_eq_true h0), List.map_cons, List.map_cons, List.sum_cons, List.sum_cons, ih]
    · rw [if_neg (by simpa using h0), ih, List.map_cons, List.sum_cons]
      omega
theorem goodHops (hne : ns ≠ []) (h8 : ns.length ≤ 8) : GoodHops ns (hopsN ns) := by
  have hi := psN_ins ns
  have hm : ∀ k, k ∈ ksN ns ↔ k ∈ ns := hi.mem
  have hks : (ksN ns).Pairwise (· < ·) := hi.sor
  have hsum := sum_counts (ks := ksN ns) (ns := ns) (hks.imp fun {a b} h => by omega) fun n hn => (hm n).2 hn
  have hlen := (shN h8).2.2
  have hne' : ((ksN ns).map fun k => ns.count k) ≠ [] := by
    intro h
    have : ksN ns = [] := by simpa using h
    match ns, hne with
    | n :: r, _ => have := (hm n).2 (by simp); simp_all
  have hp1 : ∀ x ∈ (ksN ns).map fun k => ns.count k, 1 ≤ x := fun x hx => by
    obtain ⟨k, hk, rfl⟩ := List.mem_map.1 hx
    exact List.count_pos_iff.2 ((hm k).1 hk)
  obtain ⟨s1, s2⟩ := sh2 hne' hp1 (by omega)
  rw [hsum] at s2
  have hz : ∀ p ∈ (ksN ns).zip (shOf ((ksN ns).map fun k => ns.count k)), 0 < ns.count p.1 ∧ 0 ≤ p.2 ∧ Int.tdiv (16 * (ns.count p.1 : Int)) (ns.length : Nat) ≤ p.2 ∧ p.2 ≤ Int.tdiv (16 * (ns.count p.1 : Int)) (ns.length : Nat) + 1 := by
    intro p hp
    have h1 : p.1 ∈ ksN ns := (List.of_mem_zip hp).1
    refine ⟨List.count_pos_iff.2 ((hm p.1).1 h1), s2 (ns.count p.1, p.2) ?_⟩
    have := List.mem_map_of_mem (f := Prod.map (fun k => ns.count k) (fun x : Int => x)) hp
    rw [← List.zip_map, List.map_id''] at this
    exact this
    intro x; rfl
  refine ⟨fun p hp => hz p (List.mem_filter.1 hp).1, ?_, ?_⟩
  · have : ((ksN ns).zip (shOf ((ksN ns).map fun k => ns.count k))).map (·.1) = ksN ns := List.map_fst_zip (by omega)
    rw [← this] at hks
    exact hks.sublist ((List.filter_sublist).map _)
  · unfold hopsN hopsOf
    rw [sum_pos _ fun p hp => (hz p hp).2.1]
    have : ((ksN ns).zip (shOf ((ksN ns).map fun k => ns.count k))).map (·.2) = shOf ((ksN ns).map fun k => ns.count k) := List.map_snd_zip (by omega)
    rw [this, s1]
theorem hopsN_one (n : Int) : (hopsN [n]).length = 1 := by
  have h1 : ksN [n] = [n] := rfl
  unfold hopsN
  rw [h1]
  have h2 : (([n] : List Int).map fun k => [n].count k) = [1] := by simp
  rw [h2, show shOf [1] = [16] from by kernel_rfl]
  rfl
theorem hopsN_nil : hopsN [] = [] := by
  unfold hopsN
  rfl

/-! ### The walk over them -/
theorem rul16 (r : List T53) (a1 : Int) {c : List T41} {links S : List Int} {hops : List T44} (hin : ∀ n ∈ S, 0 ≤ n ∧ n < (links.length : Nat)) (hS : 0 < S.length) (hS8 : S.length ≤ 8) (hg : GoodHops (nsOf links S) hops) {i : Nat} (hi : i < hops.length) (hh : hops.length ≤ 8)
    (sum : Int) (h0 : 0 ≤ sum) (h1 : sum ≤ 10000) (k12 : Int × Int × List T41 × List Int × List Int × List T44 → Option (Bool × Unit)) :
    Rules.l16 cands.F Within.F Set.F Hops.F Best.F known.F FU r a1 sum (i : Int) c links S hops k12 FU (0, 0) = k12 (sum + (hops.getD i (0, 0)).2, ((i + 1 : Nat) : Int), c, links, S, hops) := by
  have hm := hg.mem _ (getD_mem hi (0, 0))
  have hnl : (nsOf links S).length = S.length := by unfold nsOf; rw [List.length_map]
  rw [hnl] at hm
  have hcle := count_le_len (nsOf links S) (hops.getD i (0, 0)).1
  rw [hnl] at hcle
  have hsor : i > 0 → (hops.getD (i - 1) (0, 0)).1 < (hops.getD i (0, 0)).1 := fun h => by
    have := List.pairwise_iff_getElem.1 hg.sor (i - 1) i (by rw [List.length_map]; omega) (by rw [List.length_map]; omega) (by omega)
    rw [List.getElem_map, List.getElem_map] at this
    rw [getD_eq_getElem (show i - 1 < hops.length by omega), getD_eq_getElem hi]
    exact this
  unfold Rules.l16
  rw [iterN_eq (F := fun _ : Int × Int => k12 (sum + (hops.getD i (0, 0)).2, ((i + 1 : Nat) : Int), c, links, S, hops))
    (fun s : Int × Int => ∃ j : Nat, s.2 = (j : Int) ∧ j ≤ S.length ∧ s.1 = ((nsOf links (S.take j)).count (hops.getD i (0, 0)).1 : Nat)) (fun s : Int × Int => S.length - s.2.toNat)]
  · rintro ⟨n, s⟩ k ⟨j, hj, hle, hn⟩ hk
    have hj : s = (j : Int) := hj
    have hn : n = ((nsOf links (S.take j)).count (hops.getD i (0, 0)).1 : Nat) := hn
    subst hj hn
    unfold Rules.b16
    simp only
    rw [decide_eq_true (show (0 : Int) ≤ (i : Nat) by omega), decide_eq_true (show (i : Int) < (hops.length : Nat) by omega)]
    by_cases hlt : j < S.length
    · have hp := hin _ (getD_mem hlt 0)
      rw [decide_eq_true (show (j : Int) < (S.length : Nat) by omega), decide_eq_true (show (0 : Int) ≤ (j : Nat) by omega)]
      simp only [cond_true, Bool.and_self, Int.toNat_natCast]
      rw [decide_eq_true hp.1, decide_eq_true hp.2, wrap_succ hlt (by omega)]
      simp only [cond_true, Bool.and_self]
      have hsucc := nsOf_succ (links := links) hlt
      have hl2 := count_le_len (nsOf links (S.take j)) (hops.getD i (0, 0)).1
      have hl3 := nsOf_take_length (links := links) (S := S) j
      show (bif links.getD (S.getD j 0).toNat 0 == (hops.getD i (0, 0)).1 then _ else _) = _
      cases he : links.getD (S.getD j 0).toNat 0 == (hops.getD i (0, 0)).1 with
      | true =>
        rw [cond_true, show IntKind.i64.wrap (((nsOf links (S.take j)).count (hops.getD i (0, 0)).1 : Nat) + 1) = (((nsOf links (S.take j)).count (hops.getD i (0, 0)).1 + 1 : Nat) : Int) from wrap_succ (n := 100) (by omega) (by omega)]
        refine hk _ ⟨j + 1, rfl, hlt, ?_⟩ (by simp; omega)
        rw [hsucc, List.count_append]
        rw [beq_iff_eq] at he
        rw [he]
        simp
      | false =>
        rw [cond_false]
        refine hk _ ⟨j + 1, rfl, hlt, ?_⟩ (by simp; omega)
        rw [hsucc, List.count_append]
        have he : ¬ links.getD (S.getD j 0).toNat 0 = (hops.getD i (0, 0)).1 := by simpa using he
        rw [List.count_eq_zero.2 (show (hops.getD i (0, 0)).1 ∉ [links.getD (S.getD j 0).toNat 0] by simpa using fun e => he e.symm)]
        rfl
    · have : j = S.length := by omega
      subst this
      rw [List.take_length]
      generalize hN : (nsOf links S).count (hops.getD i (0, 0)).1 = N at *
      have e1 : IntKind.i64.wrap ((16 : Int) * (N : Nat)) = 16 * (N : Nat) := by rw [wrap_id] <;> omega
      have e2 : (0 : Int) ≤ Int.tdiv (16 * (N : Nat)) (S.length : Nat) := Int.tdiv_nonneg (by omega) (by omega)
      have e3 : Int.tdiv (16 * (N : Nat)) (S.length : Nat) ≤ 16 * (N : Nat) := by
        rw [Int.tdiv_eq_ediv_of_nonneg (by omega)]
        exact Int.ediv_le_self _ (by omega)
      have e4 : IntKind.i64.wrap (Int.tdiv (16 * (N : Nat)) (S.length : Nat)) = Int.tdiv (16 * (N : Nat)) (S.length : Nat) := by rw [wrap_id] <;> omega
      have e5 : IntKind.i64.wrap (Int.tdiv (16 * (N : Nat)) (S.length : Nat) + 1) = Int.tdiv (16 * (N : Nat)) (S.length : Nat) + 1 := by rw [wrap_id] <;> omega
      rw [decide_eq_false (show ¬ ((S.length : Nat) : Int) < (S.length : Nat) by omega), e1, e4, e5]
      simp only [cond_false, Int.toNat_natCast]
      have hd : ty44.dflt = ((0, 0) : T44) := rfl
      rw [hd]
      rw [decide_eq_false (show ¬ (hops.getD i (0, 0)).2 < Int.tdiv (16 * (N : Nat)) (S.length : Nat) by omega), decide_eq_false (show ¬ (hops.getD i (0, 0)).2 > Int.tdiv (16 * (N : Nat)) (S.length : Nat) + 1 by omega),
        decide_eq_false (show ¬ ((S.length : Nat) : Int) = 0 by omega), show (((N : Nat) : Int) == 0) = false from by simp; omega, wrap_succ hi (by omega),
        show IntKind.i64.wrap (sum + (hops.getD i (0, 0)).2) = sum + (hops.getD i (0, 0)).2 from by rw [wrap_id] <;> omega]
      by_cases hi0 : i > 0
      · rw [decide_eq_true (show (i : Int) > 0 by omega), show IntKind.i64.wrap ((i : Int) - 1) = ((i - 1 : Nat) : Int) from by rw [wrap_id] <;> omega,
          decide_eq_true (show (0 : Int) ≤ ((i - 1 : Nat) : Int) by omega), decide_eq_true (show ((i - 1 : Nat) : Int) < (hops.length : Nat) by omega)]
        simp only [Int.toNat_natCast]
        have := hsor hi0
        rw [decide_eq_false (show ¬ (hops.getD (i - 1) (0, 0)).1 ≥ (hops.getD i (0, 0)).1 by omega)]
        rfl
      · rw [decide_eq_false (show ¬ (i : Int) > 0 by omega)]
        rfl
  · exact ⟨0, rfl, Nat.zero_le _, rfl⟩
  · exact FU_lt (by simp; omega)
theorem rul12 (r : List T53) (a1 : Int) {c : List T41} {links S : List Int} {hops : List T44} (hin : ∀ n ∈ S, 0 ≤ n ∧ n < (links.length : Nat)) (hS : 0 < S.length) (hS8 : S.length ≤ 8) (hg : GoodHops (nsOf links S) hops) (hh : hops.length ≤ 8)
    (one : List T44) (hone : Hops.F (c, links, 1, ()) = some (one, ())) (h1 : one.length = 1) :
    Rules.l12 cands.F Within.F Set.F Hops.F Best.F known.F FU r a1 FU (0, 0, c, links, S, hops) = some (true, ()) := by
  have hnl : (nsOf links S).length = S.length := by unfold nsOf; rw [List.length_map]
  have hb : ∀ p ∈ hops, 0 ≤ p.2 ∧ p.2 ≤ 1000 := fun p hp => by
    have hm := hg.mem p hp
    have hcle := count_le_len (nsOf links S) p.1
    rw [hnl] at hm hcle
    have e3 : Int.tdiv (16 * ((nsOf links S).count p.1 : Nat)) (S.length : Nat) ≤ 16 * ((nsOf links S).count p.1 : Nat) := by
      rw [Int.tdiv_eq_ediv_of_nonneg (by omega)]
      exact Int.ediv_le_self _ (by omega)
    omega
  unfold Rules.l12
  rw [iterN_eq (F := fun _ => some (true, ()))
    (fun s : Int × Int × List T41 × List Int × List Int × List T44 => s.2.2 = (c, links, S, hops) ∧ ∃ i : Nat, s.2.1 = (i : Int) ∧ i ≤ hops.length ∧ s.1 = ((hops.take i).map (·.2)).sum ∧ 0 ≤ s.1 ∧ s.1 ≤ 1000 * (i : Int)) (fun s : Int × Int × List T41 × List Int × List Int × List T44 => hops.length - s.2.1.toNat)]
  · rintro ⟨sum, s, c', links', S', hops'⟩ k ⟨h2, i, hi, hle, hs, hs0, hs1⟩ hk
    simp only [Prod.mk.injEq] at h2
    obtain ⟨rfl, rfl, rfl, rfl⟩ := h2
    have hi : s = (i : Int) := hi
    subst hi
    have hs' : sum = ((hops'.take i).map (·.2)).sum := hs
    have hs0' : 0 ≤ sum := hs0
    have hs1' : sum ≤ 1000 * (i : Int) := hs1
    unfold Rules.b12
    simp only
    by_cases hlt : i < hops'.length
    · rw [decide_eq_true (show (i : Int) < (hops'.length : Nat) by omega), cond_true, rul16 r a1 hin hS hS8 hg hlt hh sum hs0' (by omega) k]
      have hp := hb _ (getD_mem hlt (0, 0))
      refine hk _ ⟨rfl, i + 1, rfl, hlt, ?_, ?_, ?_⟩ (by simp; omega)
      · rw [take_map_succ hlt (fun p : T44 => p.2) (0, 0), List.sum_append, hs']
        simp
      · simp only; omega
      · simp only; omega
    · have : i = hops'.length := by omega
      subst this
      rw [decide_eq_false (show ¬ ((hops'.length : Nat) : Int) < (hops'.length : Nat) by omega), cond_false, hs', List.take_length, hg.sum, hone]
      simp only [Option.bind_some]
      rw [h1, known_eq]
      rfl
  · exact ⟨rfl, 0, rfl, Nat.zero_le _, rfl, by simp, by simp⟩
  · exact FU_lt (by simp; omega)

theorem Rules_eq (r : List T53) (w : Int) : Rules.F (r, w, ()) = some (true, ()) := by
  have hW := Within_eq w 1 8 (by omega) (by omega) (by omega)
  have hf := candsD_fit true r
  have hfew := candsD_few r
  have hcl := candsD_length true r
  have hll := linksD_length r
  have hlr := linksD_in r
  show Rules.b cands.F Within.F Set.F Hops.F Best.F known.F r w (fun t => Rules.l12 cands.F Within.F Set.F Hops.F Best.F known.F FU r w FU t) = _
  unfold Rules.b
  rw [cands_eq, hW.1]
  simp only [Option.bind_some]
  rw [Set_eq hf (by omega), hopsD_eq hf (by omega) hlr]
  simp only [Option.bind_some]
  have hin := setD_in (l := candsD true r) (links := linksD r) (withinD w 1 8)
  have hle8 := setD_length (l := candsD true r) (links := linksD r) (withinD w 1 8)
  have hh8 := hopsD_length (l := candsD true r) (links := linksD r) (withinD w 1 8)
  have hst := setD_take (l := candsD true r) (links := linksD r) (by omega) hW.2.1 hW.2.2
  have hst1 := setD_take (l := candsD true r) (links := linksD r) (w := 1) (by omega) (by omega) (by omega)
  have hone := hopsD_eq hf (by omega) hlr 1
  generalize hc : candsD true r = c at *
  generalize hlk : linksD r = links at *
  generalize hww : withinD w 1 8 = n at *
  by_cases hne : c = []
  · subst hne
    have h0 : setD [] links n = [] := by
      rw [hst]
      have : (allD []).length = 0 := by
        unfold allD
        rw [length_insAll]
        have := leftN_length (l := ([] : List T41)) 6
        simpa using this
      rw [List.eq_nil_of_length_eq_zero this]
      simp
    have h1 : hopsD [] links n = [] := by
      unfold hopsD
      rw [h0]
      exact hopsN_nil
    rw [h0, h1, best_none, known_eq]
    rfl
  · obtain ⟨h, q, e, hb⟩ := best_first hfew hne (by omega)
    rw [hb]
    simp only [Option.bind_some]
    have hlen : (setD c links n).length = min n.toNat (q.length + 1) := by rw [hst, e, List.length_take, List.length_cons]
    have h0 : (setD c links n).getD 0 0 = h := by
      rw [hst, e]
      obtain ⟨m, hm⟩ : ∃ m, n.toNat = m + 1 := ⟨n.toNat - 1, by omega⟩
      rw [hm]
      rfl
    rw [decide_eq_false (show ¬ (((setD c links n).length : Nat) : Int) < 1 by omega), decide_eq_false (show ¬ (((setD c links n).length : Nat) : Int) > n by omega), decide_eq_true (show (0 : Int) < (((setD c links n).length : Nat) : Int) by omega), h0]
    have hbne : (h != h) = false := by simp
    rw [hbne]
    simp only [Bool.not_true, cond_false, cond_true]
    have hnl : (nsOf links (setD c links n)).length = (setD c links n).length := by unfold nsOf; rw [List.length_map]
    refine rul12 r w hin (by omega) hle8 (goodHops ?_ (by omega)) hh8 (hopsD c links 1) hone ?_
    · intro e2
      rw [e2] at hnl
      simp only [List.length_nil] at hnl
      omega
    · unfold hopsD
      rw [hst1, e]
      exact hopsN_one _
end BE
