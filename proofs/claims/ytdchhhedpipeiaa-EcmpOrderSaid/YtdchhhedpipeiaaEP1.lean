/- Plain: which routes beat which; what steps leave. -/
import Derived.Test.YtdchhhedpipeiaaEP0
set_option linter.unusedVariables false
set_option linter.unusedSimpArgs false
namespace BE
open Go Go.Ev

theorem rCount_eq (l : List T71) (hl : l.length < 4611686018427387904) : rCount.F (l, ()) = some (l.foldl cntStep 0, ()) := by
  show rCount.l3 FU l FU (0, 0) = _
  unfold rCount.l3
  rw [iterN_eq (F := fun s : Int × Int => some ((l.drop s.2.toNat).foldl cntStep s.1, ())) (fun s : Int × Int => ∃ i : Nat, s.2 = (i : Int) ∧ i ≤ l.length) (fun s : Int × Int => l.length - s.2.toNat)]
  · rfl
  · rintro ⟨n, idx⟩ k ⟨i, hi, hle⟩ hk
    have hi : idx = (i : Nat) := hi
    subst hi
    unfold rCount.b3
    simp only
    by_cases hlt : i < l.length
    · rw [decide_eq_true (show (i : Int) < (l.length : Nat) by omega), decide_eq_true (show (0 : Int) ≤ (i : Nat) by omega)]
      simp only [cond_true, Bool.and_self, Int.toNat_natCast]
      have hd := drop_getD hlt ty71.dflt
      have hw := wrap_succ hlt hl
      have key : ∀ n', k (n', IntKind.i64.wrap ((i : Int) + 1)) = some ((l.drop (i + 1)).foldl cntStep n', ()) := fun n' => by
        rw [hw, hk _ ⟨i + 1, rfl, hlt⟩ (by simp; omega)]
        simp
      rw [key, key, key, hd, List.foldl_cons]
      unfold cntStep
      by_cases h1 : (l.getD i ty71.dflt).1 = 1
      · rw [show ((l.getD i ty71.dflt).1 == 1) = true from by simpa using h1, cond_true, if_neg (by omega), if_pos h1]
      · rw [show ((l.getD i ty71.dflt).1 == 1) = false from by simpa using h1, cond_false]
        by_cases h2 : (l.getD i ty71.dflt).1 = 2
        · rw [show ((l.getD i ty71.dflt).1 == 2) = true from by simpa using h2, cond_true, if_pos h2]
        · rw [show ((l.getD i ty71.dflt).1 == 2) = false from by simpa using h2, cond_false, if_neg h2, if_neg h1]
    · rw [decide_eq_false (show ¬ (i : Int) < (l.length : Nat) by omega)]
      have : i = l.length := by omega
      subst this
      simp
  · exact ⟨0, rfl, Nat.zero_le _⟩
  · exact FU_lt (by simp; omega)

/-- A candidate whose path is not too long. -/
def Fit (a : T41) : Prop := a.1.2.2.2.2.2.1.length < 1000
def aheadD (a b : T41) : Bool := bif decide (a.1.2.1 < b.1.2.1) then true else bif a.1.2.1 == b.1.2.1 then decide (a.1.2.2.1 < b.1.2.2.1) else false
theorem Ahead_eq (a b : T41) : Ahead.F (a, b, ()) = some (aheadD a b, ()) := by
  show Ahead.b a b = _
  unfold Ahead.b aheadD
  cases decide (a.1.2.1 < b.1.2.1) <;> simp only [cond_true, cond_false]
  cases (a.1.2.1 == b.1.2.1) <;> rfl
theorem beats_ok (a b : T41) (s : Int) (ha : Fit a) (hb : Fit b) : ∃ r, beats.F (a, b, s, ()) = some (r, ()) ∧ worse.F (a, b, s, ()) = some (r, ()) := by
  show ∃ r, beats.b Pref.F Count.F fellows.F med.F Less.F Ahead.F a b s = some (r, ()) ∧ worse.b rPref.F rCount.F neighbour.F rmed.F rLess.F a b s = some (r, ())
  have hca := Count_eq a.1.2.2.2.2.2.1 (by unfold Fit at ha; omega)
  have hcb := Count_eq b.1.2.2.2.2.2.1 (by unfold Fit at hb; omega)
  have hra := rCount_eq a.1.2.2.2.2.2.1 (by unfold Fit at ha; omega)
  have hrb := rCount_eq b.1.2.2.2.2.2.1 (by unfold Fit at hb; omega)
  obtain ⟨f, hf1, hf2⟩ := fellows_eq a.1.2.2.2.2 b.1.2.2.2.2
  obtain ⟨q, hq1, hq2⟩ := lesses b.2 a.2
  unfold beats.b worse.b
  rw [Pref_eq, Pref_eq, rPref_eq, rPref_eq, hca, hcb, hra, hrb, hf1, hf2, med_eq, med_eq, rmed_eq, rmed_eq, hq1, hq2, Ahead_eq]
  simp only [Option.bind_some]
  cases (s == 1) <;> simp only [cond_true, cond_false]
  · cases (s == 2) <;> simp only [cond_true, cond_false]
    · cases (s == 3) <;> simp only [cond_true, cond_false]
      · cases (s == 4) <;> simp only [cond_true, cond_false]
        · cases (s == 5) <;> simp only [cond_true, cond_false]
          · cases (s == 6) <;> simp only [cond_true, cond_false]
            · refine ⟨_, rfl, ?_⟩
              unfold aheadD
              have e : (b.1.2.1 == a.1.2.1) = (a.1.2.1 == b.1.2.1) := by
                rw [Bool.eq_iff_iff]
                simp only [beq_iff_eq]
                exact eq_comm
              rw [e]
              show (bif decide (b.1.2.1 < a.1.2.1) then _ else _) = _
              cases decide (b.1.2.1 < a.1.2.1) with
              | true => rfl
              | false =>
                simp only [cond_false]
                cases (a.1.2.1 == b.1.2.1) <;> rfl
            · exact ⟨_, rfl, rfl⟩
          · cases a.1.2.2.2.1 <;> exact ⟨_, rfl, rfl⟩
        · cases f <;> exact ⟨_, rfl, rfl⟩
      · exact ⟨_, rfl, rfl⟩
    · exact ⟨_, rfl, rfl⟩
  · exact ⟨_, rfl, rfl⟩

/-- Does b take a away at a step? -/
noncomputable def bt (a b : T41) (s : Int) : Bool := match beats.F (a, b, s, ()) with
  | some (r, _) => r
  | none => false
theorem beats_eq {a b : T41} (s : Int) (ha : Fit a) (hb : Fit b) : beats.F (a, b, s, ()) = some (bt a b s, ()) := by
  obtain ⟨r, h, _⟩ := beats_ok a b s ha hb
  unfold bt
  rw [h]
theorem worse_eq {a b : T41} (s : Int) (ha : Fit a) (hb : Fit b) : worse.F (a, b, s, ()) = some (bt a b s, ()) := by
  obtain ⟨r, h, h'⟩ := beats_ok a b s ha hb
  unfold bt
  rw [h, h']

noncomputable abbrev at_ (l : List T41) (n : Int) : T41 := l.getD n.toNat ty41.dflt
/-- Places in a list. -/
def In (l : List T41) (ps : List Int) : Prop := ∀ n ∈ ps, 0 ≤ n ∧ n < (l.length : Nat)
/-- What a step leaves. -/
noncomputable def sf (l : List T41) (ps : List Int) (s : Int) : List Int := ps.filter fun n => !ps.any fun k => bt (at_ l n) (at_ l k) s
noncomputable def siftD (l : List T41) (ps : List Int) (s : Int) : List Int := if s = 7 then (sf l ps s).take 1 else sf l ps s

variable {l : List T41} {ps : List Int}
theorem fit_at (hf : ∀ a ∈ l, Fit a) {n : Int} (hn : 0 ≤ n ∧ n < (l.length : Nat)) : Fit (at_ l n) := by
  have h : n.toNat < l.length := by omega
  unfold at_
  rw [List.getD_eq_getElem?_getD, List.getElem?_eq_getElem h]
  exact hf _ (List.getElem_mem h)
theorem getD_mem {α : Type} {l : List α} {i : Nat} (h : i < l.length) (d : α) : l.getD i d ∈ l := by
  rw [List.getD_eq_getElem?_getD, List.getElem?_eq_getElem h]
  exact List.getElem_mem h

theorem sift_inner (hf : ∀ a ∈ l, Fit a) (hin : In l ps) (hlen : ps.length < 1000000) (s : Int) {n : Int} (hn : 0 ≤ n ∧ n < (l.length : Nat)) (x4 x5 : Int) (out : List Int) (hout : out.length < 1000000) (k3 : Int × Int × List Int → Option (List Int × Unit)) :
    sift.l6 beats.F FU l ps s x4 x5 out k3 FU (n, ((ps.length : Nat) : Int), 0) = bif ps.any fun k => bt (at_ l n) (at_ l k) s then k3 (x4, IntKind.i64.wrap (x5 + 1), out) else k3 (x4, IntKind.i64.wrap (x5 + 1), out ++ [n]) := by
  unfold sift.l6
  rw [iterN_eq (F := fun t : Int × Int × Int => bif (ps.drop t.2.2.toNat).any fun k => bt (at_ l n) (at_ l k) s then k3 (x4, IntKind.i64.wrap (x5 + 1), out) else k3 (x4, IntKind.i64.wrap (x5 + 1), out ++ [n]))
    (fun t : Int × Int × Int => t.1 = n ∧ t.2.1 = ((ps.length : Nat) : Int) ∧ ∃ i : Nat, t.2.2 = (i : Int) ∧ i ≤ ps.length) (fun t : Int × Int × Int => ps.length - t.2.2.toNat)]
  · rfl
  · rintro ⟨n', len, idx⟩ k ⟨h1, h2, i, hi, hle⟩ hk
    have h1 : n' = n := h1
    have h2 : len = ((ps.length : Nat) : Int) := h2
    have hi : idx = (i : Nat) := hi
    subst h1 h2 hi
    unfold sift.b6
    simp only
    by_cases hlt : i < ps.length
    · have hp := hin _ (getD_mem hlt 0)
      rw [decide_eq_true (show (i : Int) < (ps.length : Nat) by omega), decide_eq_true (show (0 : Int) ≤ (i : Nat) by omega), decide_eq_true hn.1, decide_eq_true hn.2]
      simp only [cond_true, Bool.and_self, Int.toNat_natCast]
      rw [decide_eq_true hp.1, decide_eq_true hp.2]
      simp only [cond_true, Bool.and_self]
      rw [show beats.F (l.getD n'.toNat ty41.dflt, l.getD (ps.getD i 0).toNat ty41.dflt, s, ()) = some (bt (at_ l n') (at_ l (ps.getD i 0)) s, ()) from beats_eq s (fit_at hf hn) (fit_at hf hp)]
      simp only [Option.bind_some]
      rw [wrap_succ hlt (by omega), hk _ ⟨rfl, rfl, i + 1, rfl, hlt⟩ (by simp; omega), drop_getD hlt 0, List.any_cons]
      simp only [Int.toNat_natCast]
      cases bt (at_ l n') (at_ l (ps.getD i 0)) s <;> simp
    · rw [decide_eq_false (show ¬ (i : Int) < (ps.length : Nat) by omega), decide_eq_true (show (out.length + 1) * 8 ≤ maxBytes by unfold maxBytes; omega)]
      have : i = ps.length := by omega
      subst this
      simp
  · exact ⟨rfl, rfl, 0, rfl, Nat.zero_le _⟩
  · exact FU_lt (by simp; omega)

theorem sift_eq (hf : ∀ a ∈ l, Fit a) (hin : In l ps) (hlen : ps.length < 1000000) (s : Int) : sift.F (l, ps, s, ()) = some (siftD l ps s, ()) := by
  show sift.l3 beats.F FU l ps s FU (((ps.length : Nat) : Int), 0, []) = _
  unfold sift.l3
  rw [iterN_eq (F := fun t : Int × Int × List Int => some (let o := t.2.2 ++ (ps.drop t.2.1.toNat).filter fun n => !ps.any fun k => bt (at_ l n) (at_ l k) s; if s = 7 then o.take 1 else o, ()))
    (fun t : Int × Int × List Int => t.1 = ((ps.length : Nat) : Int) ∧ ∃ i : Nat, t.2.1 = (i : Int) ∧ i ≤ ps.length ∧ t.2.2.length ≤ i) (fun t : Int × Int × List Int => ps.length - t.2.1.toNat)]
  · rfl
  · rintro ⟨len, idx, out⟩ k ⟨h1, i, hi, hle, hol⟩ hk
    have h1 : len = ((ps.length : Nat) : Int) := h1
    have hi : idx = (i : Nat) := hi
    have hol : out.length ≤ i := hol
    subst h1 hi
    unfold sift.b3
    simp only
    by_cases hlt : i < ps.length
    · have hp := hin _ (getD_mem hlt 0)
      rw [decide_eq_true (show (i : Int) < (ps.length : Nat) by omega), decide_eq_true (show (0 : Int) ≤ (i : Nat) by omega)]
      simp only [cond_true, Bool.and_self, Int.toNat_natCast]
      rw [sift_inner hf hin hlen s hp _ _ out (by omega) k, wrap_succ hlt (by omega), drop_getD hlt 0, List.filter_cons]
      cases ps.any fun k => bt (at_ l (ps.getD i 0)) (at_ l k) s with
      | true =>
        rw [cond_true, hk _ ⟨rfl, i + 1, rfl, hlt, by simp; omega⟩ (by simp; omega)]
        simp
      | false =>
        rw [cond_false, hk _ ⟨rfl, i + 1, rfl, hlt, by simp; omega⟩ (by simp; omega)]
        simp
    · rw [decide_eq_false (show ¬ (i : Int) < (ps.length : Nat) by omega)]
      have : i = ps.length := by omega
      subst this
      simp only [cond_false, Int.toNat_natCast, List.drop_length, List.filter_nil, List.append_nil]
      by_cases h7 : s = 7
      · rw [show (s == 7) = true from by simpa using h7, cond_true, if_pos h7]
        by_cases h1 : (out.length : Int) > 1
        · rw [decide_eq_true h1, decide_eq_true (show (1 : Int) ≤ (out.length : Nat) by omega)]
          rfl
        · rw [decide_eq_false h1, cond_false, List.take_of_length_le (by omega)]
      · rw [show (s == 7) = false from by simpa using h7, cond_false, if_neg h7]
  · exact ⟨rfl, 0, rfl, Nat.zero_le _, Nat.le_refl _⟩
  · exact FU_lt (by simp; omega)

/-- What so many steps leave. -/
noncomputable def leftN (l : List T41) : Nat → List Int
  | 0 => (List.range l.length).map fun i : Nat => (i : Int)
  | k + 1 => siftD l (leftN l k) ((k + 1 : Nat) : Int)
theorem siftD_sub (s : Int) : ∀ n ∈ siftD l ps s, n ∈ ps := fun n hn => by
  unfold siftD at hn
  split at hn
  · exact (List.mem_filter.1 (List.mem_of_mem_take hn)).1
  · exact (List.mem_filter.1 hn).1
theorem siftD_length (s : Int) : (siftD l ps s).length ≤ ps.length := by
  unfold siftD sf
  split
  · exact Nat.le_trans (List.length_take_le' _ _) (List.length_filter_le _ _)
  · exact List.length_filter_le _ _
theorem leftN_in : ∀ k, In l (leftN l k)
  | 0 => fun n hn => by
    obtain ⟨i, h1, rfl⟩ := List.mem_map.1 hn
    have := List.mem_range.1 h1
    omega
  | k + 1 => fun n hn => leftN_in k n (siftD_sub _ n hn)
theorem leftN_length : ∀ k, (leftN l k).length ≤ l.length
  | 0 => by simp [leftN]
  | k + 1 => Nat.le_trans (siftD_length _) (leftN_length k)
theorem range_succ_int (i : Nat) : ((List.range (i + 1)).map fun i : Nat => (i : Int)) = ((List.range i).map fun i : Nat => (i : Int)) ++ [(i : Int)] := by
  rw [List.range_succ, List.map_append]
  rfl
theorem Left_eq (hf : ∀ a ∈ l, Fit a) (hlen : l.length < 1000000) (s : Nat) (hs : s ≤ 7) : Left.F (l, (s : Int), ()) = some (leftN l s, ()) := by
  have h8 : Left.l8 sift.F FU l (s : Int) FU (1, leftN l 0) = some (leftN l s, ()) := by
    unfold Left.l8
    rw [iterN_eq (F := fun _ : Int × List Int => some (leftN l s, ())) (fun t : Int × List Int => ∃ j : Nat, t.1 = ((j + 1 : Nat) : Int) ∧ j ≤ s ∧ t.2 = leftN l j) (fun t : Int × List Int => s + 1 - t.1.toNat)]
    · rintro ⟨idx, out⟩ k ⟨j, h1, h2, h3⟩ hk
      have h1 : idx = ((j + 1 : Nat) : Int) := h1
      have h3 : out = leftN l j := h3
      subst h1 h3
      unfold Left.b8
      simp only
      have e : (if (7 : Int) < (s : Int) then (7 : Int) else (s : Int)) = (s : Int) := if_neg (by omega)
      rw [e]
      by_cases hj : j < s
      · rw [decide_eq_true (show ((j + 1 : Nat) : Int) ≤ (s : Int) by omega), cond_true, sift_eq hf (leftN_in j) (Nat.lt_of_le_of_lt (leftN_length j) hlen)]
        simp only [Option.bind_some]
        rw [show IntKind.i64.wrap (((j + 1 : Nat) : Int) + 1) = ((j + 1 + 1 : Nat) : Int) from wrap_succ (n := 100) (by omega) (by omega)]
        exact hk _ ⟨j + 1, rfl, by omega, rfl⟩ (by simp; omega)
      · have : j = s := by omega
        subst this
        rw [decide_eq_false (show ¬ ((j + 1 : Nat) : Int) ≤ (j : Int) by omega)]
        rfl
    · exact ⟨0, rfl, Nat.zero_le _, rfl⟩
    · exact FU_lt (by simp; omega)
  show Left.l3 sift.F FU l (s : Int) FU (((l.length : Nat) : Int), 0, []) = _
  unfold Left.l3
  rw [iterN_eq (F := fun _ : Int × Int × List Int => some (leftN l s, ())) (fun t : Int × Int × List Int => t.1 = ((l.length : Nat) : Int) ∧ ∃ i : Nat, t.2.1 = (i : Int) ∧ i ≤ l.length ∧ t.2.2 = (List.range i).map fun i : Nat => (i : Int)) (fun t : Int × Int × List Int => l.length - t.2.1.toNat)]
  · rintro ⟨len, idx, out⟩ k ⟨h1, i, hi, hle, ho⟩ hk
    have h1 : len = ((l.length : Nat) : Int) := h1
    have hi : idx = (i : Nat) := hi
    have ho : out = (List.range i).map fun i : Nat => (i : Int) := ho
    subst h1 hi ho
    unfold Left.b3
    simp only
    by_cases hlt : i < l.length
    · rw [decide_eq_true (show (i : Int) < (l.length : Nat) by omega), decide_eq_true (show (((List.range i).map fun i : Nat => (i : Int)).length + 1) * 8 ≤ maxBytes by unfold maxBytes; simp; omega)]
      simp only [cond_true]
      rw [wrap_succ hlt (by omega), ← range_succ_int]
      exact hk _ ⟨rfl, i + 1, rfl, hlt, rfl⟩ (by simp; omega)
    · have : i = l.length := by omega
      subst this
      rw [decide_eq_false (show ¬ ((l.length : Nat) : Int) < (l.length : Nat) by omega), cond_false]
      exact h8
  · exact ⟨rfl, 0, rfl, Nat.zero_le _, rfl⟩
  · exact FU_lt (by simp; omega)
end BE
