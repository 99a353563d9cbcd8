/- The document's Meet, and small laws of cuts. -/
import Derived.Test.YtokfgajfkopelaaDoorBPureRef
namespace Go.Proofs.YtokfgajfkopelaaDoor.Mine
open Go.RowKit Go.Proofs.YtokfgajfkopelaaDoorW.PrintWords Go.Proofs.YtokfgajfkopelaaDoorW.PrintLast Go.Proofs.YtokfgajfkopelaaDoorW.PrintMore
set_option linter.unusedVariables false
set_option linter.unusedSimpArgs false

theorem cutI_range (a n : Int) (h0 : 0 ≤ a) (h1 : a < 4294967296) : 0 ≤ cutI a n ∧ cutI a n ≤ a ∧ cutI a n < 4294967296 := by
  unfold cutI
  have hp := lo_pos n
  have e1 := Int.emod_nonneg a (Int.ne_of_gt hp)
  have e2 := Int.mul_ediv_add_emod a (lo n)
  have e3 : 0 ≤ a / lo n := Int.ediv_nonneg h0 (Int.le_of_lt hp)
  have e4 : 0 ≤ lo n * (a / lo n) := Int.mul_nonneg (Int.le_of_lt hp) e3
  omega
theorem cutI_mod (a n : Int) : cutI a n % lo n = 0 := by
  unfold cutI
  have e2 := Int.mul_ediv_add_emod a (lo n)
  rw [show a - a % lo n = lo n * (a / lo n) by omega, Int.mul_emod_right]
theorem cutI_id (a n : Int) (h : a % lo n = 0) : cutI a n = a := by unfold cutI; omega
theorem right_cut (a n : Int) (h0 : 0 ≤ n) (h1 : n ≤ 32) : rightB (cutI a n) n = true := (right_iff _ _).2 ⟨h0, h1, cutI_mod a n⟩
/-- What is cut shorter hangs on the longer cut alone. -/
theorem cutI_cut (a n m : Int) (h : n ≤ m) (hm : m ≤ 32) : cutI (cutI a m) n = cutI a n := by
  obtain ⟨c, hc⟩ := lo_dvd n m h hm
  unfold cutI
  have e2 := Int.mul_ediv_add_emod a (lo n)
  have e3 : a % lo m = (a % lo n) % lo m := (Int.emod_emod_of_dvd a (lo_dvd n m h hm)).symm
  have hp := lo_pos m
  have hpn := lo_pos n
  have f0 := Int.emod_nonneg (a % lo n) (Int.ne_of_gt hp)
  have f1 : (a % lo n) % lo m ≤ a % lo n := by
    have g := Int.mul_ediv_add_emod (a % lo n) (lo m)
    have g2 : 0 ≤ lo m * ((a % lo n) / lo m) := Int.mul_nonneg (Int.le_of_lt hp) (Int.ediv_nonneg (Int.emod_nonneg _ (Int.ne_of_gt hpn)) (Int.le_of_lt hp))
    omega
  have f2 := Int.emod_lt_of_pos a hpn
  have key : (a - a % lo m) % lo n = a % lo n - (a % lo n) % lo m := by
    rw [show a - a % lo m = (a % lo n - (a % lo n) % lo m) + lo n * (a / lo n) by omega, Int.add_mul_emod_self_left]
    exact Int.emod_eq_of_lt (by omega) (by omega)
  omega
theorem hasB_cut (a n x : Int) (h0 : 0 ≤ n) (h1 : n ≤ 32) : hasB (cutI a n) n x = (cutI x n == cutI a n) := by
  unfold hasB
  rw [right_cut a n h0 h1, Bool.true_and]

theorem refMeet_l (a b n m : Int) (a0 : 0 ≤ a) (a1 : a < 4294967296) (b0 : 0 ≤ b) (b1 : b < 4294967296) (ha : rightB a n = true) (hb : rightB b m = true) : ∀ (t k : Nat), t ≤ 32 → t + 40 ≤ k →
    BP.signpostref1_Meet.l0 k t a n b m = some (meetN a b (min t (min n m).toNat)) := by
  obtain ⟨r0, r1, r2⟩ := (right_iff a n).1 ha
  obtain ⟨s0, s1, s2⟩ := (right_iff b m).1 hb
  intro t
  induction t with
  | zero =>
    intro k ht hk
    obtain ⟨k, rfl⟩ : ∃ j, k = j + 1 := ⟨k - 1, by omega⟩
    simp only [BP.signpostref1_Meet.l0]
    rw [if_neg (by omega), Nat.zero_min]
    rfl
  | succ t ih =>
    intro k ht hk
    obtain ⟨k, rfl⟩ : ∃ j, k = j + 1 := ⟨k - 1, by omega⟩
    simp only [BP.signpostref1_Meet.l0]
    obtain ⟨c0, c1, c2⟩ := cutI_range a ((t + 1 : Nat) : Int) a0 a1
    rw [if_pos (by omega), refOf_f k (by omega) a _ a0 a1, clampI_in ((t + 1 : Nat) : Int) (by omega) (by omega)]
    simp only [Option.bind_some]
    have hrec : BP.signpostref1_Meet.l0 k (wrap64 (((t + 1 : Nat) : Int) - 1)) a n b m = some (meetN a b (min t (min n m).toNat)) := by
      rw [wrap64_id _ (by omega) (by omega), show ((t + 1 : Nat) : Int) - 1 = (t : Int) by omega]
      exact ih k (by omega) (by omega)
    by_cases hn : ((t + 1 : Nat) : Int) ≤ n
    · rw [if_pos hn, refCovers_f k (by omega) _ _ b m c0 c2 b0 b1]
      simp only [Option.bind_some]
      unfold coversB
      rw [hb, hasB_cut a _ b (by omega) (by omega), Bool.true_and]
      by_cases hm : ((t + 1 : Nat) : Int) ≤ m
      · have e : min (t + 1) (min n m).toNat = t + 1 := by omega
        have e' : min t (min n m).toNat = t := by omega
        rw [e]
        rw [e'] at hrec
        unfold meetN
        by_cases he : cutI a ((t + 1 : Nat) : Int) = cutI b ((t + 1 : Nat) : Int)
        · rw [if_pos he, if_pos (by rw [he]; simp; omega)]
        · rw [if_neg he, if_neg (by simp; intro h; exact absurd h.symm he)]
          exact hrec
      · have e : min (t + 1) (min n m).toNat = min t (min n m).toNat := by omega
        rw [e, if_neg (by simp; omega)]
        exact hrec
    · have e : min (t + 1) (min n m).toNat = min t (min n m).toNat := by omega
      rw [if_neg hn, e]
      exact hrec
theorem refMeet_f (k : Nat) (hk : 80 ≤ k) (a n b m : Int) (a0 : 0 ≤ a) (a1 : a < 4294967296) (b0 : 0 ≤ b) (b1 : b < 4294967296) : BP.signpostref1_Meet.f k a n b m = some (meetP a n b m) := by
  obtain ⟨k, rfl⟩ : ∃ j, k = j + 1 := ⟨k - 1, by omega⟩
  unfold BP.signpostref1_Meet.f meetP
  rw [refRight_f _ (by omega) a n a0 a1]
  simp only [Option.bind_some]
  cases hr : rightB a n
  · simp [BP.signpostref1_Meet.j0]
  · rw [refRight_f _ (by omega) b m b0 b1]
    simp only [Option.bind_some, if_true]
    cases hs : rightB b m
    · simp [BP.signpostref1_Meet.j0]
    · obtain ⟨r0, r1, r2⟩ := (right_iff a n).1 hr
      obtain ⟨s0, s1, s2⟩ := (right_iff b m).1 hs
      simp only [BP.signpostref1_Meet.j0, Bool.not_true, Bool.false_eq_true, if_false, if_true]
      have := refMeet_l a b n m a0 a1 b0 b1 hr hs 32 k (by omega) (by omega)
      rwa [show min 32 (min n m).toNat = (min n m).toNat by omega] at this
end Go.Proofs.YtokfgajfkopelaaDoor.Mine
