/- What the prefixes' functions compute, in plain words. -/
import Derived.Test.YtokfgajfkopelaaDoorBMath
import Derived.Test.YtokfgajfkopelaaDoorBP1
import Derived.Test.YtokfgajfkopelaaDoorBP2
import Derived.Test.YtokfgajfkopelaaDoorBP3
import Derived.Test.YtokfgajfkopelaaDoorBP4
import Derived.Test.YtokfgajfkopelaaDoorBP5
import Derived.Test.YtokfgajfkopelaaDoorBP6
namespace Go.Proofs.YtokfgajfkopelaaDoor.Mine
open Go.RowKit Go.Proofs.YtokfgajfkopelaaDoorW.PrintWords Go.Proofs.YtokfgajfkopelaaDoorW.PrintLast Go.Proofs.YtokfgajfkopelaaDoorW.PrintMore
set_option linter.unusedVariables false
set_option linter.unusedSimpArgs false

def rightB (a n : Int) : Bool := decide (0 ≤ n) && (decide (n ≤ 32) && (a % lo n == 0))
def hasB (a n x : Int) : Bool := rightB a n && (cutI x n == a)
def coversB (a n b m : Int) : Bool := rightB b m && (hasB a n b && decide (n ≤ m))
def lessB (a n b m : Int) : Bool := rightB a n && (rightB b m && (decide (a < b) || (decide (a = b) && decide (n < m))))

theorem wrap64_id (a : Int) (h0 : -9223372036854775808 ≤ a) (h1 : a ≤ 9223372036854775807) : wrap64 a = a := by unfold wrap64; omega
theorem clampI_in (n : Int) (h0 : 0 ≤ n) (h1 : n ≤ 32) : clampI n = n := by unfold clampI; omega

theorem mask_f (n : Int) (h1 : n ≤ 9223372036854775807) : BP.addr_Mask.f n = some (maskI n) := by
  unfold BP.addr_Mask.f
  by_cases h : n < 1
  · rw [if_pos h]
    unfold maskI
    rw [if_pos h]
  · rw [if_neg h]
    have e : mn n 32 = min n 32 := by unfold mn; split <;> omega
    rw [e, wrap64_id _ (by omega) (by omega), if_pos (by omega)]
    unfold maskI
    rw [if_neg h, lo_nat]
    unfold shl
    have hb : min (32 - min n 32).toNat IntKind.u32.bits = (32 - min n 32).toNat := by
      have : IntKind.u32.bits = 32 := rfl
      omega
    rw [hb, IntKind.wrap_u32]
    obtain ⟨k, hk, hk2⟩ : ∃ k : Nat, (32 - min n 32).toNat = k ∧ k ≤ 31 := ⟨_, rfl, by omega⟩
    rw [hk]
    have hp : 2 ^ k ≤ 2 ^ 31 := Nat.pow_le_pow_right (by decide) hk2
    have e31 : (2 : Nat) ^ 31 = 2147483648 := by decide
    have hpos := Nat.two_pow_pos k
    have e2 : ((2 : Int) ^ k) = ((2 ^ k : Nat) : Int) := by rw [Int.natCast_pow]; rfl
    rw [e2]
    generalize 2 ^ k = p at *
    congr 1
    have : (4294967295 : Int) * (p : Int) = 4294967296 * ((p : Int) - 1) + (4294967296 - (p : Int)) := by omega
    rw [this, Int.add_comm, Int.add_mul_emod_self_left]
    exact Int.emod_eq_of_lt (by omega) (by omega)
theorem right_f (a n : Int) (h0 : 0 ≤ a) (h1 : a < 4294967296) : BP.addr_Right.f a n = some (rightB a n) := by
  unfold BP.addr_Right.f rightB
  by_cases hn : 0 ≤ n
  · rw [if_pos hn]
    by_cases hm : n ≤ 32
    · rw [if_pos hm, mask_f n (by omega)]
      simp only [Option.bind_some, andNot_mask a n h0 h1, clampI_in n hn hm, decide_eq_true hn, decide_eq_true hm, Bool.true_and]
    · rw [if_neg hm]
      simp [hm]
  · rw [if_neg (by omega)]
    simp [hn]
theorem of_f (a n : Int) (h0 : 0 ≤ a) (h1 : a < 4294967296) (hn : n ≤ 9223372036854775807) : BP.addr_Of.f a n = some (cutI a (clampI n), clampI n) := by
  unfold BP.addr_Of.f
  rw [mask_f n hn]
  simp only [Option.bind_some, and_mask a n h0 h1]
  have : mn (mx n 0) 32 = clampI n := by unfold mn mx clampI; split <;> split <;> omega
  rw [this]
theorem has_f (a n x : Int) (h0 : 0 ≤ a) (h1 : a < 4294967296) (x0 : 0 ≤ x) (x1 : x < 4294967296) : BP.addr_Has.f a n x = some (hasB a n x) := by
  unfold BP.addr_Has.f hasB
  rw [right_f a n h0 h1]
  simp only [Option.bind_some]
  cases hr : rightB a n
  · rfl
  · unfold rightB at hr
    simp at hr
    rw [mask_f n (by omega)]
    simp [and_mask x n x0 x1, clampI_in n hr.1 hr.2.1]
theorem covers_f (a n b m : Int) (h0 : 0 ≤ a) (h1 : a < 4294967296) (b0 : 0 ≤ b) (b1 : b < 4294967296) : BP.addr_Covers.f a n b m = some (coversB a n b m) := by
  unfold BP.addr_Covers.f coversB
  rw [right_f b m b0 b1]
  simp only [Option.bind_some]
  cases rightB b m
  · rfl
  · rw [has_f a n b h0 h1 b0 b1]
    simp only [Option.bind_some]
    cases hasB a n b <;> simp
theorem less_f (a n b m : Int) (h0 : 0 ≤ a) (h1 : a < 4294967296) (b0 : 0 ≤ b) (b1 : b < 4294967296) : BP.addr_Less.f a n b m = some (lessB a n b m) := by
  unfold BP.addr_Less.f lessB
  rw [right_f a n h0 h1]
  simp only [Option.bind_some]
  cases rightB a n
  · rfl
  · rw [right_f b m b0 b1]
    simp only [Option.bind_some]
    cases rightB b m
    · rfl
    · by_cases h : a < b
      · simp [h]
      · by_cases e : a = b <;> simp [h, e]
end Go.Proofs.YtokfgajfkopelaaDoor.Mine
