/- Plain: sets of two widths. -/
import Derived.Test.YtdchhhedpipeiaaEP9
set_option linter.unusedVariables false
set_option linter.unusedSimpArgs false
namespace BE
open Go Go.Ev

theorem length_insAll {α : Type} {lt : α → α → Bool} {l : List α} : (insAll lt l).length = l.length := by
  unfold insAll
  rw [List.length_reverse]
  have : ∀ (m acc : List α), (m.foldl (fun acc x => insRev lt x acc) acc).length = acc.length + m.length := by
    intro m
    induction m with
    | nil => simp
    | cons x m ih =>
      intro acc
      simp only [List.foldl_cons, List.length_cons]
      rw [ih]
      have : ∀ r : List α, (insRev lt x r).length = r.length + 1 := by
        intro r
        induction r with
        | nil => rfl
        | cons y r ih =>
          simp only [insRev]
          cases lt x y with
          | true => simp [ih]
          | false => rfl
      rw [this]
      omega
  rw [this]
  simp
/-- All that share, in order. -/
noncomputable def allD (l : List T41) : List Int := insAll (ltS l) (leftN l 6)
theorem setD_take {l : List T41} {links : List Int} (h : links.length = l.length) {w : Int} (h1 : 1 ≤ w) (h8 : w ≤ 8) : setD l links w = (allD l).take w.toNat := if_pos ⟨h, h1, h8⟩

theorem wid14 (r : List T53) (a1 a2 : Int) {y left : List Int} (hl : left.length < 1000000) {i : Nat} (hi : i < y.length) (hy : y.length < 1000000) (hm : y.getD i 0 ∈ left) (k10 : Int × List Int × List Int → Option (Bool × Unit)) :
    Widths.l14 cands.F Within.F Set.F Left.F SameI.F known.F FU r a1 a2 (i : Int) y left k10 FU (false, 0) = k10 (((i + 1 : Nat) : Int), y, left) := by
  unfold Widths.l14
  rw [iterN_eq (F := fun s : Bool × Int => bif s.1 || (left.drop s.2.toNat).any fun z => z == y.getD i 0 then k10 (((i + 1 : Nat) : Int), y, left) else some (false, ()))
    (fun s : Bool × Int => ∃ j : Nat, s.2 = (j : Int) ∧ j ≤ left.length) (fun s : Bool × Int => left.length - s.2.toNat)]
  · rw [show ((false, (0 : Int)).1 || (left.drop (false, (0 : Int)).2.toNat).any fun z => z == y.getD i 0) = true from by
      simp only [Bool.false_or, Int.toNat_zero, List.drop_zero]
      exact List.any_eq_true.2 ⟨_, hm, by simp⟩]
    rfl
  · rintro ⟨g, s⟩ k ⟨j, hj, hle⟩ hk
    have hj : s = (j : Int) := hj
    subst hj
    unfold Widths.b14
    simp only
    by_cases hlt : j < left.length
    · rw [decide_eq_true (show (j : Int) < (left.length : Nat) by omega), decide_eq_true (show (0 : Int) ≤ (j : Nat) by omega), decide_eq_true (show (0 : Int) ≤ (i : Nat) by omega), decide_eq_true (show (i : Int) < (y.length : Nat) by omega), wrap_succ hlt (by omega)]
      simp only [cond_true, Bool.and_self, Int.toNat_natCast]
      rw [hk _ ⟨j + 1, rfl, hlt⟩ (by simp; omega), hk _ ⟨j + 1, rfl, hlt⟩ (by simp; omega), drop_getD hlt 0, List.any_cons]
      cases g
      · simp
      · simp
    · rw [decide_eq_false (show ¬ (j : Int) < (left.length : Nat) by omega), wrap_succ hi (by omega)]
      simp only [cond_false, Int.toNat_natCast]
      rw [List.drop_of_length_le (by omega)]
      cases g <;> rfl
  · exact ⟨0, rfl, Nat.zero_le _⟩
  · exact FU_lt (by simp; omega)
theorem wid10 (r : List T53) (a1 a2 : Int) {y left : List Int} (hl : left.length < 1000000) (hy : y.length < 1000000) (hm : ∀ n ∈ y, n ∈ left) :
    Widths.l10 cands.F Within.F Set.F Left.F SameI.F known.F FU r a1 a2 FU (0, y, left) = some (true, ()) := by
  unfold Widths.l10
  rw [iterN_eq (F := fun _ : Int × List Int × List Int => some (true, ())) (fun s : Int × List Int × List Int => s.2 = (y, left) ∧ ∃ i : Nat, s.1 = (i : Int) ∧ i ≤ y.length) (fun s : Int × List Int × List Int => y.length - s.1.toNat)]
  · rintro ⟨s, y', left'⟩ k ⟨h1, i, hi, hle⟩ hk
    obtain ⟨rfl, rfl⟩ := Prod.mk.inj h1
    have hi : s = (i : Int) := hi
    subst hi
    unfold Widths.b10
    simp only
    by_cases hlt : i < y'.length
    · rw [decide_eq_true (show (i : Int) < (y'.length : Nat) by omega), cond_true, wid14 r a1 a2 hl hlt hy (hm _ (getD_mem hlt 0)) k]
      exact hk _ ⟨rfl, i + 1, rfl, hlt⟩ (by simp; omega)
    · rw [decide_eq_false (show ¬ (i : Int) < (y'.length : Nat) by omega), cond_false, known_eq]
      rfl
  · exact ⟨rfl, 0, rfl, Nat.zero_le _⟩
  · exact FU_lt (by simp; omega)
theorem Widths_eq (r : List T53) (a b : Int) : Widths.F (r, a, b, ()) = some (true, ()) := by
  have hA := Within_eq a 1 8 (by omega) (by omega) (by omega)
  have hB := Within_eq b 1 8 (by omega) (by omega) (by omega)
  have hf := candsD_fit true r
  have hcl := candsD_length true r
  have hll := linksD_length r
  have hL := Left_eq (l := candsD true r) hf (by omega) 6 (by omega)
  have hL' : Left.F (candsD true r, (6 : Int), ()) = some (leftN (candsD true r) 6, ()) := hL
  have hlen := leftN_length (l := candsD true r) 6
  have hall : (allD (candsD true r)).length = (leftN (candsD true r) 6).length := length_insAll
  have hmem : ∀ n ∈ allD (candsD true r), n ∈ leftN (candsD true r) 6 := fun n hn => mem_insAll.1 hn
  have key : ∀ n m : Int, 1 ≤ n → n ≤ m → m ≤ 8 →
      ∃ x y : List Int, setD (candsD true r) (linksD r) n = x ∧ setD (candsD true r) (linksD r) m = y ∧ x.length ≤ y.length ∧ x = y.take x.length ∧ ((x.length : Int) < n → x.length = y.length) ∧ ((y.length : Int) < m → y.length = (leftN (candsD true r) 6).length) ∧ (∀ k ∈ y, k ∈ leftN (candsD true r) 6) := by
    intro n m h1 h2 h3
    refine ⟨_, _, setD_take (by omega) (by omega) (by omega), setD_take (by omega) (by omega) (by omega), ?_, ?_, ?_, ?_, fun k hk => hmem k (List.mem_of_mem_take hk)⟩
    · rw [List.length_take, List.length_take]; omega
    · rw [List.take_take, List.length_take]
      rw [show min (min n.toNat (allD (candsD true r)).length) m.toNat = min n.toNat (allD (candsD true r)).length from by omega]
      exact List.take_eq_take_min
    · rw [List.length_take, List.length_take]; omega
    · rw [List.length_take]; omega
  show Widths.b cands.F Within.F Set.F Left.F SameI.F known.F r a b (fun t => Widths.l10 cands.F Within.F Set.F Left.F SameI.F known.F FU r a b FU t) = _
  unfold Widths.b
  rw [cands_eq, hA.1, hB.1]
  simp only [Option.bind_some]
  generalize withinD a 1 8 = n at *
  generalize withinD b 1 8 = m at *
  rw [Set_eq hf (by omega), Set_eq hf (by omega), hL']
  simp only [Option.bind_some]
  by_cases h : n > m
  · obtain ⟨x, y, e1, e2, k1, k2, k3, k4, k5⟩ := key m n (by omega) (by omega) (by omega)
    rw [decide_eq_true h, cond_true, e1, e2]
    have hs : SameI.F (x, List.take (((x.length : Nat) : Int).toNat - 0) (List.drop 0 y), ()) = some (true, ()) := by
      rw [SameI_eq _ _ (by have := setD_length (l := candsD true r) (links := linksD r) m; rw [e1] at this; omega)]
      simp only [Int.toNat_natCast, Nat.sub_zero, List.drop_zero]
      rw [decide_eq_true k2]
    have hy : y.length ≤ 8 := by have := setD_length (l := candsD true r) (links := linksD r) n; rwa [e2] at this
    rw [hs, decide_eq_false (show ¬ ((x.length : Nat) : Int) > (y.length : Nat) by omega), decide_eq_true (show (0 : Int) ≤ (x.length : Nat) by omega), decide_eq_true (show ((x.length : Nat) : Int) ≤ (y.length : Nat) by omega)]
    simp only [cond_false, cond_true, Bool.and_self, Option.bind_some, Bool.not_true]
    have hfin := wid10 r a b (y := y) (left := leftN (candsD true r) 6) (by omega) (by omega) k5
    by_cases c1 : ((x.length : Nat) : Int) < m
    · rw [decide_eq_true c1, show (((x.length : Nat) : Int) != (y.length : Nat)) = false from by simp; have := k3 c1; omega]
      by_cases c2 : ((y.length : Nat) : Int) < n
      · rw [decide_eq_true c2, show (((y.length : Nat) : Int) != ((leftN (candsD true r) 6).length : Nat)) = false from by simp; have := k4 c2; omega]
        exact hfin
      · rw [decide_eq_false c2]
        exact hfin
    · rw [decide_eq_false c1]
      by_cases c2 : ((y.length : Nat) : Int) < n
      · rw [decide_eq_true c2, show (((y.length : Nat) : Int) != ((leftN (candsD true r) 6).length : Nat)) = false from by simp; have := k4 c2; omega]
        exact hfin
      · rw [decide_eq_false c2]
        exact hfin
  · obtain ⟨x, y, e1, e2, k1, k2, k3, k4, k5⟩ := key n m (by omega) (by omega) (by omega)
    rw [decide_eq_false h, cond_false, e1, e2]
    have hs : SameI.F (x, List.take (((x.length : Nat) : Int).toNat - 0) (List.drop 0 y), ()) = some (true, ()) := by
      rw [SameI_eq _ _ (by have := setD_length (l := candsD true r) (links := linksD r) n; rw [e1] at this; omega)]
      simp only [Int.toNat_natCast, Nat.sub_zero, List.drop_zero]
      rw [decide_eq_true k2]
    have hy : y.length ≤ 8 := by have := setD_length (l := candsD true r) (links := linksD r) m; rwa [e2] at this
    rw [hs, decide_eq_false (show ¬ ((x.length : Nat) : Int) > (y.length : Nat) by omega), decide_eq_true (show (0 : Int) ≤ (x.length : Nat) by omega), decide_eq_true (show ((x.length : Nat) : Int) ≤ (y.length : Nat) by omega)]
    simp only [cond_false, cond_true, Bool.and_self, Option.bind_some, Bool.not_true]
    have hfin := wid10 r a b (y := y) (left := leftN (candsD true r) 6) (by omega) (by omega) k5
    by_cases c1 : ((x.length : Nat) : Int) < n
    · rw [decide_eq_true c1, show (((x.length : Nat) : Int) != (y.length : Nat)) = false from by simp; have := k3 c1; omega]
      by_cases c2 : ((y.length : Nat) : Int) < m
      · rw [decide_eq_true c2, show (((y.length : Nat) : Int) != ((leftN (candsD true r) 6).length : Nat)) = false from by simp; have := k4 c2; omega]
        exact hfin
      · rw [decide_eq_false c2]
        exact hfin
    · rw [decide_eq_false c1]
      by_cases c2 : ((y.length : Nat) : Int) < m
      · rw [decide_eq_true c2, show (((y.length : Nat) : Int) != ((leftN (candsD true r) 6).length : Nat)) = false from by simp; have := k4 c2; omega]
        exact hfin
      · rw [decide_eq_false c2]
        exact hfin
end BE
