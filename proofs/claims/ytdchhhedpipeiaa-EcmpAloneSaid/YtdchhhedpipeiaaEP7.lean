/- Plain: hops, the document's. -/
import Derived.Test.YtdchhhedpipeiaaEP6
set_option linter.unusedVariables false
set_option linter.unusedSimpArgs false
namespace BE
open Go Go.Ev
variable {l : List T41} {links : List Int}

theorem getD_map {α β : Type} {P : List α} {i : Nat} (h : i < P.length) (f : α → β) (d : β) (e : α) : (P.map f).getD i d = f (P.getD i e) := by
  rw [List.getD_eq_getElem?_getD, List.getD_eq_getElem?_getD, List.getElem?_map, List.getElem?_eq_getElem h]
  rfl
theorem l9_eq (w i : Int) (S : List Int) (n : Int) {P : List (Int × Nat)} (hP : P.length < 1000000) (hi : IntKind.i64.wrap (i + 1) = i + 1) (hadd : ∀ p ∈ P, (FloatKind.f64.format.add p.2 4607182418800017408).isSome = true) (k5 : Int × List Int × List Int × List Nat → Option (List T44 × Unit)) :
    rHops.l9 rSet.F rShares.F FU l links w i S (P.map (·.1)) (P.map (·.2)) k5 FU (n, 0) = k5 (i + 1, S, (insP n P).map (·.1), (insP n P).map (·.2)) := by
  unfold rHops.l9
  rw [iterN_eq (F := fun t : Int × Int => k5 (i + 1, S, (P.take t.2.toNat ++ insP n (P.drop t.2.toNat)).map (·.1), (P.take t.2.toNat ++ insP n (P.drop t.2.toNat)).map (·.2)))
    (fun t : Int × Int => t.1 = n ∧ ∃ j : Nat, t.2 = (j : Int) ∧ j ≤ P.length) (fun t : Int × Int => P.length - t.2.toNat)]
  · rfl
  · rintro ⟨n', idx⟩ k ⟨h1, j, hj, hle⟩ hk
    have h1 : n' = n := h1
    have hj : idx = (j : Nat) := hj
    subst h1 hj
    unfold rHops.b9
    simp only [List.length_map]
    rw [decide_eq_true (show (0 : Int) ≤ (j : Nat) by omega), decide_eq_true (show (j : Int) ≤ (P.length : Nat) by omega), decide_eq_true (show ((P.length : Nat) : Int) ≤ (P.length : Nat) by omega), hi]
    simp only [Int.toNat_natCast, List.drop_zero, Nat.sub_zero, List.nil_append, Nat.zero_add, Bool.and_self, cond_true, ← List.map_take, ← List.map_drop]
    rw [decide_eq_true (show ((P.take j).map (·.1)).length * 8 ≤ maxBytes by unfold maxBytes; simp; omega), decide_eq_true (show (((P.take j).map (·.1)).length + 1) * 8 ≤ maxBytes by unfold maxBytes; simp; omega),
      decide_eq_true (show ((P.take j).map (·.2)).length * 8 ≤ maxBytes by unfold maxBytes; simp; omega), decide_eq_true (show (((P.take j).map (·.2)).length + 1) * 8 ≤ maxBytes by unfold maxBytes; simp; omega),
      decide_eq_true (show (((P.take j).map (·.1) ++ [n']).length + (((P.drop j).take (P.length - j)).map (·.1)).length) * 8 ≤ maxBytes by unfold maxBytes; simp; omega),
      decide_eq_true (show (((P.take j).map (fun x : Int × Nat => x.2) ++ ([4607182418800017408] : List Nat)).length + (((P.drop j).take (P.length - j)).map (fun x : Int × Nat => x.2)).length) * 8 ≤ maxBytes by unfold maxBytes; simp; omega)]
    simp only [cond_true]
    rw [show (P.drop j).take (P.length - j) = P.drop j from List.take_of_length_le (by simp)]
    by_cases hlt : j < P.length
    · rw [decide_eq_true (show (j : Int) < (P.length : Nat) by omega)]
      simp only [cond_true, Bool.and_self]
      have hd := drop_getD hlt ((0 : Int), (0 : Nat))
      simp only [getD_map hlt (fun x : Int × Nat => x.1) 0 (0, 0), getD_map hlt (fun x : Int × Nat => x.2) 0 (0, 0)]
      rw [hadd _ (getD_mem hlt _), cond_true, wrap_succ hlt (by omega)]
      have hk' := hk (n', ((j + 1 : Nat) : Int)) ⟨rfl, j + 1, rfl, hlt⟩ (by simp; omega)
      simp only [Int.toNat_natCast] at hk'
      have htk : P.take (j + 1) = P.take j ++ [P.getD j (0, 0)] := by
        rw [List.take_succ_eq_append_getElem hlt, show P.getD j (0, 0) = P[j] from by rw [List.getD_eq_getElem?_getD, List.getElem?_eq_getElem hlt]; rfl]
      have hpl : P.take j ++ P.getD j (0, 0) :: P.drop (j + 1) = P := by rw [← hd, List.take_append_drop]
      rw [hd]
      clear hd
      generalize P.getD j (0, 0) = p at *
      unfold insP
      cases decide (p.1 < n') with
      | true =>
        rw [cond_true, cond_true, hk', htk]
        simp
      | false =>
        rw [cond_false, cond_false]
        cases p.1 == n' with
        | true =>
          rw [cond_true, cond_true]
          have e1 : P.map (·.1) = (P.take j ++ p :: P.drop (j + 1)).map (·.1) := by
            rw [hpl]
          have e2 : (P.map (·.2)).set j ((FloatKind.f64.format.add p.2 4607182418800017408).getD 0) = (P.take j ++ (p.1, (FloatKind.f64.format.add p.2 4607182418800017408).getD 0) :: P.drop (j + 1)).map (·.2) := by
            have : P.map (·.2) = (P.take j ++ p :: P.drop (j + 1)).map (·.2) := by
              rw [hpl]
            rw [this, List.map_append, List.set_append_right _ _ (by simp; omega)]
            simp
            rw [show j - min j P.length = 0 from by omega]
            rfl
          rw [e1, e2]
          simp
        | false =>
          rw [cond_false, cond_false]
          simp
    · rw [decide_eq_false (show ¬ (j : Int) < (P.length : Nat) by omega)]
      have : j = P.length := by omega
      subst this
      simp [insP]
  · exact ⟨rfl, 0, rfl, Nat.zero_le _⟩
  · exact FU_lt (by simp; omega)

theorem insP_length (n : Int) : ∀ P : List (Int × Nat), (insP n P).length ≤ P.length + 1
  | [] => by simp [insP]
  | p :: P => by
    have := insP_length n P
    unfold insP
    cases decide (p.1 < n) with
    | true => simp only [cond_true, List.length_cons]; omega
    | false => cases p.1 == n <;> simp
theorem psN_length (ns : List Int) : (psN ns).length ≤ ns.length := by
  have : ∀ (ns : List Int) (P : List (Int × Nat)), (ns.foldl (fun P n => insP n P) P).length ≤ P.length + ns.length := by
    intro ns
    induction ns with
    | nil => intro P; simp
    | cons n ns ih =>
      intro P
      have h1 := ih (insP n P)
      have h2 := insP_length n P
      simp only [List.foldl_cons, List.length_cons]
      omega
  have := this ns []
  simp only [List.length_nil, Nat.zero_add] at this
  exact this
theorem psN_succ (ns : List Int) (n : Int) : psN (ns ++ [n]) = insP n (psN ns) := by
  unfold psN
  rw [List.foldl_append]
  rfl
theorem shN {ns : List Int} (h : ns.length ≤ 8) : Shares.F (((ksN ns).map fun k => ns.count k).map fl, 16, ()) = some (shOf ((ksN ns).map fun k => ns.count k), ()) ∧ rShares.F (((ksN ns).map fun k => ns.count k).map fl, 16, ()) = some (shOf ((ksN ns).map fun k => ns.count k), ()) ∧ (shOf ((ksN ns).map fun k => ns.count k)).length = (ksN ns).length := by
  have hi := psN_ins ns
  have hm : ∀ k, k ∈ ksN ns ↔ k ∈ ns := hi.mem
  have hsum := sum_counts (ks := ksN ns) (ns := ns) (hi.sor.imp fun {a b} h => by omega) fun n hn => (hm n).2 hn
  have := shares_eq (c := (ksN ns).map fun k => ns.count k) (fun x hx => by
    obtain ⟨k, hk, rfl⟩ := List.mem_map.1 hx
    exact List.count_pos_iff.2 ((hm k).1 hk)) (by omega)
  rwa [List.length_map] at this
theorem rHops_eq {S : List Int} (w : Int) (hS : rSet.F (l, links, w, ()) = some (S, ())) (hin : ∀ n ∈ S, 0 ≤ n ∧ n < (links.length : Nat)) (hS8 : S.length ≤ 8) :
    rHops.F (l, links, w, ()) = some (hopsN (nsOf links S), ()) := by
  have key : rHops.l5 rSet.F rShares.F FU l links w FU (0, S, [], []) = some (hopsN (nsOf links S), ()) := by
    unfold rHops.l5
    rw [iterN_eq (F := fun _ : Int × List Int × List Int × List Nat => some (hopsN (nsOf links S), ()))
      (fun t : Int × List Int × List Int × List Nat => t.2.1 = S ∧ ∃ i : Nat, t.1 = (i : Int) ∧ i ≤ S.length ∧ t.2.2.1 = (psN (nsOf links (S.take i))).map (·.1) ∧ t.2.2.2 = (psN (nsOf links (S.take i))).map (·.2)) (fun t : Int × List Int × List Int × List Nat => S.length - t.1.toNat)]
    · rintro ⟨idx, S', ls, ws⟩ k ⟨h2, i, hi, hle, h3, h4⟩ hk
      have h2 : S' = S := h2
      subst h2
      have hi : idx = (i : Nat) := hi
      have h3 : ls = (psN (nsOf links (S'.take i))).map (·.1) := h3
      have h4 : ws = (psN (nsOf links (S'.take i))).map (·.2) := h4
      subst hi h3 h4
      unfold rHops.b5
      simp only
      by_cases hlt : i < S'.length
      · have hp := hin _ (getD_mem hlt 0)
        rw [decide_eq_true (show (i : Int) < (S'.length : Nat) by omega), decide_eq_true (show (0 : Int) ≤ (i : Nat) by omega)]
        simp only [cond_true, Bool.and_self, Int.toNat_natCast]
        rw [decide_eq_true hp.1, decide_eq_true hp.2]
        simp only [cond_true, Bool.and_self]
        have hl := nsOf_take_length (links := links) (S := S') i
        have hpl := psN_length (nsOf links (S'.take i))
        rw [l9_eq w (i : Int) S' _ (by omega) (by rw [wrap_succ hlt (by omega)]; rfl) (fun p hp => by
          rw [(psN_ins _).val p hp]
          refine fl_add ?_
          have h1 := count_le_len (nsOf links (S'.take i)) p.1
          omega) k]
        refine hk _ ⟨rfl, i + 1, rfl, hlt, ?_, ?_⟩ (by simp; omega)
        · rw [nsOf_succ hlt, psN_succ]
        · rw [nsOf_succ hlt, psN_succ]
      · rw [decide_eq_false (show ¬ (i : Int) < (S'.length : Nat) by omega), cond_false]
        have : i = S'.length := by omega
        subst this
        rw [List.take_length]
        have hn8 : (nsOf links S').length ≤ 8 := by unfold nsOf; rw [List.length_map]; exact hS8
        have hsh := shN hn8
        have hpl := psN_length (nsOf links S')
        rw [psN_snd, hsh.2.1]
        simp only [Option.bind_some]
        exact l18_eq w hsh.2.2 (by show ((psN (nsOf links S')).map (·.1)).length < _; rw [List.length_map]; omega)
    · exact ⟨rfl, 0, rfl, Nat.zero_le _, rfl, rfl⟩
    · exact FU_lt (by simp; omega)
  show rHops.b rSet.F rShares.F l links w _ = _
  unfold rHops.b
  rw [hS]
  simp only [Option.bind_some]
  exact key
end BE
