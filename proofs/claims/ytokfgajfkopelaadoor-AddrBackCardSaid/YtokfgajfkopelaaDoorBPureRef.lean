/- The document's own functions of prefixes, in the same plain words. -/
import Derived.Test.YtokfgajfkopelaaDoorBPure2
namespace Go.Proofs.YtokfgajfkopelaaDoor.Mine
open Go.RowKit Go.Proofs.YtokfgajfkopelaaDoorW.PrintWords Go.Proofs.YtokfgajfkopelaaDoorW.PrintLast Go.Proofs.YtokfgajfkopelaaDoorW.PrintMore
set_option linter.unusedVariables false
set_option linter.unusedSimpArgs false

theorem maskI_eq (n : Int) (h0 : 0 ≤ n) (h1 : n ≤ 32) : maskI n = 4294967296 - lo n := by
  unfold maskI
  by_cases h : n < 1
  · obtain rfl : n = 0 := by omega
    rw [if_pos h, lo_zero]
    omega
  · rw [if_neg h, show min n 32 = n by omega]
theorem maskI_clamp (n : Int) : maskI n = maskI (clampI n) := by
  unfold maskI clampI
  by_cases h : n < 1
  · rw [if_pos h, if_pos (by omega)]
  · rw [if_neg h, if_neg (by omega), show min (min (max n 0) 32) 32 = min n 32 by omega]
theorem or_next (i : Int) (h0 : 0 ≤ i) (h1 : i < 32) : bits .or .u32 (maskI i) (lo (i + 1)) = maskI (i + 1) := by
  have hh := lo_half i h0 h1
  have hp := lo_pos (i + 1)
  have hl := lo_le i h0
  have hr := maskI_range i
  have hm : maskI i % lo i = 0 := by
    rw [maskI_eq i h0 (by omega)]
    obtain ⟨c, hc⟩ := lo_dvd 0 i h0 (by omega)
    rw [lo_zero] at hc
    rw [hc, show lo i * c - lo i = lo i * (c - 1) by rw [Int.mul_sub, Int.mul_one], Int.mul_emod_right]
  rw [or_bit (maskI i) i hr.1 hr.2 h0 h1 hm, maskI_eq i h0 (by omega), maskI_eq (i + 1) (by omega) (by omega)]
  omega
theorem u64_id (x : Int) (h0 : 0 ≤ x) (h1 : x < 18446744073709551616) : IntKind.u64.wrap x = x := by
  simp [IntKind.wrap, IntKind.bits, IntKind.signed]
  omega
theorem refMask_l (n : Int) (hn : n ≤ 9223372036854775807) : ∀ (d k i : Nat), i + d = 32 → d < k → (i : Int) ≤ clampI n → BP.signpostref1_Mask.l0 k n (maskI i) i = some (maskI n) := by
  intro d
  induction d with
  | zero =>
    intro k i hi hk hc
    obtain ⟨k, rfl⟩ : ∃ j, k = j + 1 := ⟨k - 1, by omega⟩
    obtain rfl : i = 32 := by omega
    have e : clampI n = 32 := by unfold clampI at hc ⊢; omega
    simp only [BP.signpostref1_Mask.l0]
    rw [maskI_clamp n, e]
    by_cases h : ((32 : Nat) : Int) < n
    · rw [if_pos h, if_neg (by omega)]
      rfl
    · rw [if_neg h]
      rfl
  | succ d ih =>
    intro k i hi hk hc
    obtain ⟨k, rfl⟩ : ∃ j, k = j + 1 := ⟨k - 1, by omega⟩
    simp only [BP.signpostref1_Mask.l0]
    by_cases h : (i : Int) < n
    · rw [if_pos h, if_pos (by omega), wrap64_id (31 - (i : Int)) (by omega) (by omega), u64_id _ (by omega) (by omega), if_pos (by omega), shl_one _ (by omega) (by omega), or_next _ (by omega) (by omega), wrap64_id _ (by omega) (by omega)]
      exact ih k (i + 1) (by omega) (by omega) (by unfold clampI; omega)
    · rw [if_neg h, maskI_clamp n, show clampI n = (i : Int) by unfold clampI at hc ⊢; omega]
theorem refMask_f (k : Nat) (hk : 33 ≤ k) (n : Int) (hn : n ≤ 9223372036854775807) : BP.signpostref1_Mask.f k n = some (maskI n) := by
  unfold BP.signpostref1_Mask.f
  exact refMask_l n hn 32 k 0 (by omega) (by omega) (by unfold clampI; omega)
theorem refOf_f (k : Nat) (hk : 33 ≤ k) (a n : Int) (h0 : 0 ≤ a) (h1 : a < 4294967296) : BP.signpostref1_Of.f k a n = some (cutI a (clampI n), clampI n) := by
  unfold BP.signpostref1_Of.f
  have c0 : clampI 0 = 0 := by decide
  have c32 : clampI 32 = 32 := by decide
  by_cases h : n < 0
  · rw [if_pos h, if_neg (by decide), refMask_f k hk 0 (by omega), show clampI n = 0 by unfold clampI; omega]
    simp only [Option.bind_some, and_mask a 0 h0 h1, c0]
  · rw [if_neg h]
    by_cases h2 : n > 32
    · rw [if_pos h2, refMask_f k hk 32 (by omega), show clampI n = 32 by unfold clampI; omega]
      simp only [Option.bind_some, and_mask a 32 h0 h1, c32]
    · rw [if_neg h2, refMask_f k hk n (by omega), clampI_in n (by omega) (by omega)]
      simp only [Option.bind_some, and_mask a n h0 h1, clampI_in n (show 0 ≤ n by omega) (by omega)]
theorem refRight_f (k : Nat) (hk : 33 ≤ k) (a n : Int) (h0 : 0 ≤ a) (h1 : a < 4294967296) : BP.signpostref1_Right.f k a n = some (rightB a n) := by
  unfold BP.signpostref1_Right.f rightB
  by_cases hn : 0 ≤ n
  · rw [if_pos hn]
    by_cases hm : n ≤ 32
    · rw [if_pos hm, refMask_f k hk n (by omega)]
      simp only [Option.bind_some, andNot_mask a n h0 h1, clampI_in n hn hm, decide_eq_true hn, decide_eq_true hm, Bool.true_and]
    · rw [if_neg hm]
      simp [hm]
  · rw [if_neg (by omega)]
    simp [hn]
theorem refHas_f (k : Nat) (hk : 33 ≤ k) (a n x : Int) (h0 : 0 ≤ a) (h1 : a < 4294967296) (x0 : 0 ≤ x) (x1 : x < 4294967296) : BP.signpostref1_Has.f k a n x = some (hasB a n x) := by
  unfold BP.signpostref1_Has.f hasB
  rw [refRight_f k hk a n h0 h1]
  simp only [Option.bind_some]
  cases hr : rightB a n
  · rfl
  · obtain ⟨r0, r1, r2⟩ := (right_iff a n).1 hr
    rw [refMask_f k hk n (by omega)]
    simp [and_mask x n x0 x1, clampI_in n r0 r1]
theorem refCovers_f (k : Nat) (hk : 33 ≤ k) (a n b m : Int) (h0 : 0 ≤ a) (h1 : a < 4294967296) (b0 : 0 ≤ b) (b1 : b < 4294967296) : BP.signpostref1_Covers.f k a n b m = some (coversB a n b m) := by
  unfold BP.signpostref1_Covers.f coversB
  rw [refRight_f k hk b m b0 b1]
  simp only [Option.bind_some]
  cases rightB b m
  · rfl
  · by_cases h : n ≤ m
    · simp [h, refHas_f k hk a n b h0 h1 b0 b1]
    · simp [h]
theorem refLess_f (k : Nat) (hk : 33 ≤ k) (a n b m : Int) (h0 : 0 ≤ a) (h1 : a < 4294967296) (b0 : 0 ≤ b) (b1 : b < 4294967296) : BP.signpostref1_Less.f k a n b m = some (lessB a n b m) := by
  unfold BP.signpostref1_Less.f lessB
  rw [refRight_f k hk a n h0 h1]
  simp only [Option.bind_some]
  cases rightB a n
  · rfl
  · rw [refRight_f k hk b m b0 b1]
    simp only [Option.bind_some]
    cases rightB b m
    · rfl
    · by_cases h : a < b
      · simp [h]
      · by_cases e : a = b <;> simp [h, e]
theorem refUp_f (k : Nat) (hk : 33 ≤ k) (a n : Int) (h0 : 0 ≤ a) (h1 : a < 4294967296) : BP.signpostref1_Up.f k a n = some (upP a n) := by
  unfold BP.signpostref1_Up.f upP
  rw [refRight_f k hk a n h0 h1]
  simp only [Option.bind_some]
  cases hr : rightB a n
  · rfl
  · obtain ⟨r0, r1, _⟩ := (right_iff a n).1 hr
    simp only [if_true]
    by_cases h : n = 0
    · rw [if_pos h, if_pos h]
    · rw [if_neg h, if_neg h, wrap64_id _ (by omega) (by omega), refOf_f k hk a _ h0 h1, clampI_in _ (by omega) (by omega)]
      rfl
theorem refHalf_f (k : Nat) (hk : 33 ≤ k) (a n : Int) (high : Bool) (h0 : 0 ≤ a) (h1 : a < 4294967296) : BP.signpostref1_Half.f k a n high = some (halfP a n high) := by
  obtain ⟨k, rfl⟩ : ∃ j, k = j + 1 := ⟨k - 1, by omega⟩
  unfold BP.signpostref1_Half.f halfP
  rw [refRight_f _ hk a n h0 h1]
  simp only [Option.bind_some]
  cases hr : rightB a n
  · simp [BP.signpostref1_Half.j0]
  · obtain ⟨r0, r1, r2⟩ := (right_iff a n).1 hr
    simp only [if_true]
    simp only [BP.signpostref1_Half.j0]
    by_cases h : n = 32
    · rw [if_pos (by simp [h]), if_pos h]
    · rw [if_neg (by simp [h]), if_neg h, wrap64_id (n + 1) (by omega) (by omega), wrap64_id (32 - (n + 1)) (by omega) (by omega), u64_id _ (by omega) (by omega)]
      cases high
      · rfl
      · rw [if_pos rfl, if_pos (by omega), if_pos rfl, show 32 - (n + 1) = 31 - n by omega, shl_one n r0 (by omega), or_bit a n h0 h1 r0 (by omega) r2]
end Go.Proofs.YtokfgajfkopelaaDoor.Mine
