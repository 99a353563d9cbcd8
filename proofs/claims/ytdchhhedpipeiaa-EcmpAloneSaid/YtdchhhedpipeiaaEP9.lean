/- Plain: the closed sentence; what is told. -/
import Derived.Test.YtdchhhedpipeiaaEP8
set_option linter.unusedVariables false
set_option linter.unusedSimpArgs false
namespace BE
open Go Go.Ev

noncomputable abbrev d41 : T41 := ty41.dflt
theorem bt_dflt : ∀ s : Int, s ∈ ([1, 2, 3, 4, 5, 6] : List Int) → bt d41 d41 s = false := by
  have hc : Count.F (([] : List T71), ()) = some (0, ()) := Count_eq [] (by simp)
  have key : ∀ s : Int, beats.b Pref.F (fun _ => some (0, ())) fellows.F med.F Less.F Ahead.F d41 d41 s = beats.F (d41, d41, s, ()) := fun s => by
    show _ = beats.b Pref.F Count.F fellows.F med.F Less.F Ahead.F d41 d41 s
    unfold beats.b
    rw [show Count.F (d41.1.2.2.2.2.2.1, ()) = some (0, ()) from hc]
  intro s hs
  unfold bt
  rw [← key]
  simp only [List.mem_cons, List.not_mem_nil, or_false] at hs
  rcases hs with rfl | rfl | rfl | rfl | rfl | rfl <;> kernel_rfl
theorem at_rep (n : Nat) (i : Int) : at_ (List.replicate n d41) i = d41 := by
  unfold at_
  rw [List.getD_eq_getElem?_getD, List.getElem?_replicate]
  split <;> rfl
theorem sf_rep (n : Nat) (ps : List Int) (s : Int) (hs : s ∈ ([1, 2, 3, 4, 5, 6] : List Int)) : siftD (List.replicate n d41) ps s = ps := by
  unfold siftD sf
  rw [if_neg (by rintro rfl; simp at hs)]
  refine List.filter_eq_self.2 fun a _ => ?_
  rw [Bool.not_eq_true', List.any_eq_false]
  intro k _
  rw [at_rep, at_rep, bt_dflt s hs]
  simp
theorem leftN_rep (n : Nat) : leftN (List.replicate n d41) 6 = leftN (List.replicate n d41) 0 := by
  have h : ∀ k, k < 6 → leftN (List.replicate n d41) (k + 1) = leftN (List.replicate n d41) k := fun k hk => sf_rep n _ _ (by
    match k, hk with
    | 0, _ => simp
    | 1, _ => simp
    | 2, _ => simp
    | 3, _ => simp
    | 4, _ => simp
    | 5, _ => simp)
  rw [h 5 (by omega), h 4 (by omega), h 3 (by omega), h 2 (by omega), h 1 (by omega), h 0 (by omega)]
theorem setD_known : setD (List.replicate 3 d41) [5, 5, 2] 8 = [0, 1, 2] := by
  unfold setD
  rw [if_pos ⟨by simp, by omega, by omega⟩, leftN_rep, insAll_congr (lt' := fun _ _ => false) fun x _ y _ => by
    unfold ltS
    rw [at_rep, at_rep]
    simp]
  rfl
theorem fit_rep (n : Nat) : ∀ a ∈ List.replicate n d41, Fit a := fun a ha => by
  rw [List.eq_of_mem_replicate ha]
  exact (by omega : (0 : Nat) < 1000)
theorem known_eq : known.F () = some (true, ()) := by
  show known.b Hops.F SameH.F Set.F = _
  unfold known.b
  have hr : ∀ n ∈ ([5, 5, 2] : List Int), 0 ≤ n ∧ n ≤ 1000000 := fun n hn => by
    simp only [List.mem_cons, List.not_mem_nil, or_false] at hn
    omega
  have h1 : Hops.F (List.replicate 3 ty41.dflt, [5, 5, 2], 8, ()) = some (hopsD (List.replicate 3 d41) [5, 5, 2] 8, ()) := hopsD_eq (fit_rep 3) (by simp) hr 8
  have h2 : hopsD (List.replicate 3 d41) [5, 5, 2] 8 = [(2, 6), (5, 10)] := by
    unfold hopsD
    rw [setD_known]
    kernel_rfl
  have h3 : Set.F (List.replicate 3 ty41.dflt, [1], 8, ()) = some ([], ()) := by
    rw [Set_eq (fit_rep 3) (by simp)]
    rfl
  rw [h1, h2]
  simp only [Option.bind_some]
  rw [SameH_eq _ _ (by simp), h3]
  simp

/-! ### The closed sentence -/
theorem num12 {l : List T41} {links : List Int} (hf : ∀ a ∈ l, Fit a) (hlen : l.length < 20) (hr : ∀ n ∈ links, 0 ≤ n ∧ n ≤ 1000000) {n : Nat} (hn : n < 20) (hll : links.length = n) (k2 : Int → Option (Bool × Unit)) :
    Numbers.l12 same.F eSame.F known.F FU (n : Int) l links k2 FU (-1) = k2 ((n + 1 : Nat) : Int) := by
  have ht : IntKind.i64.wrap (Int.tdiv (n : Int) 2) = ((n / 2 : Nat) : Int) := by
    rw [show Int.tdiv (n : Int) 2 = ((n / 2 : Nat) : Int) from rfl]
    rw [wrap_id] <;> omega
  unfold Numbers.l12
  rw [iterN_eq (F := fun _ : Int => k2 ((n + 1 : Nat) : Int)) (fun s : Int => -1 ≤ s ∧ s ≤ 11) (fun s : Int => (11 - s).toNat)]
  · rintro s k ⟨h1, h2⟩ hk
    unfold Numbers.b12
    simp only
    rw [ht]
    by_cases h : s < 11
    · rw [decide_eq_true h, same_eq hf hlen hr]
      simp only [cond_true, Option.bind_some, Bool.not_true, cond_false]
      rw [decide_eq_true (show (0 : Int) ≤ ((n / 2 : Nat) : Int) by omega), decide_eq_true (show ((n / 2 : Nat) : Int) ≤ (links.length : Nat) by omega), decide_eq_true (show ((links.length : Nat) : Int) ≤ (links.length : Nat) by omega)]
      simp only [cond_true, Bool.and_self]
      rw [same_eq hf hlen (fun m hm => hr m (List.mem_of_mem_drop (List.mem_of_mem_take hm)))]
      simp only [cond_true, Option.bind_some, Bool.not_true, cond_false]
      rw [show IntKind.i64.wrap (s + 1) = s + 1 from by rw [wrap_id] <;> omega]
      exact hk _ ⟨by omega, by omega⟩ (by omega)
    · rw [decide_eq_false h, cond_false, wrap_succ (n := 20) hn (by omega)]
  · omega
  · exact FU_lt (by decide)
theorem Numbers_eq : Numbers.F () = some (true, ()) := by
  show Numbers.l2 same.F eSame.F known.F FU FU 0 = _
  unfold Numbers.l2
  rw [iterN_eq (F := fun _ : Int => some (true, ())) (fun s : Int => ∃ n : Nat, s = (n : Int) ∧ n ≤ 20) (fun s : Int => 20 - s.toNat)]
  · rintro s k ⟨n, hn, hle⟩ hk
    subst hn
    unfold Numbers.b2
    simp only
    by_cases h : n < 20
    · rw [decide_eq_true (show (n : Int) < 20 by omega), decide_eq_true (show (0 : Int) ≤ (n : Nat) by omega), decide_eq_true (show (n : Int) ≤ (n : Nat) by omega), decide_eq_true (show (n : Int) * ((112 : Nat) : Int) ≤ ((maxBytes : Nat) : Int) by unfold maxBytes; omega),
        decide_eq_true (show (n : Int) ≤ 9223372036854775807 by omega)]
      simp only [cond_true, Bool.and_self, Int.toNat_natCast]
      have hk' := hk ((n + 1 : Nat) : Int) ⟨n + 1, rfl, h⟩ (by omega)
      rw [← hk']
      unfold Numbers.l7
      rw [iterN_eq (F := fun _ : Int × List T41 × List Int => k ((n + 1 : Nat) : Int)) (fun s : Int × List T41 × List Int => ∃ i : Nat, s.1 = (i : Int) ∧ i ≤ n ∧ (∀ a ∈ s.2.1, Fit a) ∧ s.2.1.length = n ∧ (∀ m ∈ s.2.2, 0 ≤ m ∧ m ≤ 1000000) ∧ s.2.2.length = i) (fun s : Int × List T41 × List Int => n - s.1.toNat)]
      · rintro ⟨s, l, links⟩ k7 ⟨i, hi, hin, hf, hl, hr, hll⟩ hk7
        have hi : s = (i : Int) := hi
        have hl : l.length = n := hl
        have hll : links.length = i := hll
        have hf : ∀ a ∈ l, Fit a := hf
        have hr : ∀ m ∈ links, 0 ≤ m ∧ m ≤ 1000000 := hr
        subst hi
        unfold Numbers.b7
        simp only
        by_cases hlt : i < n
        · rw [decide_eq_true (show (i : Int) < (n : Nat) by omega), decide_eq_true (show (0 : Int) ≤ (i : Nat) by omega), decide_eq_true (show (i : Int) < (l.length : Nat) by omega), decide_eq_true (show (links.length + 1) * 8 ≤ maxBytes by unfold maxBytes; omega), wrap_succ hlt (by omega)]
          simp only [cond_true, Bool.and_self, Int.toNat_natCast]
          refine hk7 _ ⟨i + 1, rfl, hlt, ?_, by simp [hl], ?_, by simp [hll]⟩ (by simp; omega)
          · intro a ha
            rcases List.mem_or_eq_of_mem_set ha with h | h
            · exact hf a h
            · rw [h]
              exact hf (l.getD i ty41.dflt) (getD_mem (by omega) _)
          · intro m hm
            rcases List.mem_append.1 hm with h | h
            · exact hr m h
            · rw [List.mem_singleton.1 h]
              have hw : IntKind.i64.wrap ((i : Int) * i) = ((i * i : Nat) : Int) := by
                have : i * i ≤ 20 * 20 := Nat.mul_le_mul (by omega) (by omega)
                have e : (i : Int) * i = ((i * i : Nat) : Int) := by rw [Int.natCast_mul]
                rw [e, wrap_id] <;> omega
              rw [hw, show Int.tmod ((i * i : Nat) : Int) 7 = ((i * i % 7 : Nat) : Int) from rfl]
              omega
        · rw [decide_eq_false (show ¬ (i : Int) < (n : Nat) by omega), cond_false]
          have : i = n := by omega
          subst this
          exact num12 hf (by omega) hr h hll k
      · exact ⟨0, rfl, Nat.zero_le _, fit_rep n, by simp, by simp, rfl⟩
      · exact FU_lt (by simp; omega)
    · rw [decide_eq_false (show ¬ (n : Int) < 20 by omega), cond_false, eSame_eq _ _ (by simp), eSame_eq _ _ (by simp), eSame_eq _ _ (by simp), eSame_eq _ _ (by simp), known_eq]
      rfl
  · exact ⟨0, rfl, Nat.zero_le _⟩
  · exact FU_lt (by decide)

/-! ### What is told -/
theorem Tells_eq (r : List T53) (w : Int) (a b : List T44) (ha : a.length * 16 ≤ reachBytes) (hb : b.length * 16 ≤ reachBytes) : Tells.F (r, w, a, b, ()) = some (true, ()) := by
  show Tells.b cands.F Within.F same.F eSame.F rSame.F known.F r w a b = _
  simp only [reachBytes] at ha hb
  have hW := Within_eq w 1 8 (by omega) (by omega) (by omega)
  have hs : ∀ few w, same.F (candsD few r, linksD r, w, ()) = some (true, ()) := fun few w => same_eq (candsD_fit few r) (by rw [candsD_length]; omega) (linksD_in r) w
  unfold Tells.b
  rw [cands_eq, cands_eq, hW.1]
  simp only [Option.bind_some]
  rw [hs, hs, hs, eSame_eq a b (by omega), rSame_eq a b (by omega), eSame_eq a ([] ++ a) (by omega), known_eq, decide_eq_true (show (0 + a.length) * 16 ≤ maxBytes by unfold maxBytes; omega)]
  simp
end BE
