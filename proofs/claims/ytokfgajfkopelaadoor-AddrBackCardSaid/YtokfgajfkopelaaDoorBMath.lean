/- Prefixes, as numbers: masks, bits and blocks of addresses; no program in sight. -/
import Derived.Laws.BitsLemmas
import Derived.Laws.BitsAllLaws
namespace Go.Proofs.YtokfgajfkopelaaDoor.Mine
open Go
set_option linter.unusedVariables false
set_option linter.unusedSimpArgs false

/-- How many addresses a prefix of so many bits has. -/
def lo (n : Int) : Int := 2 ^ (32 - n).toNat
/-- A mask of so many bits. -/
def maskI (n : Int) : Int := if n < 1 then 0 else 4294967296 - lo (min n 32)
def clampI (n : Int) : Int := min (max n 0) 32
/-- What of an address lies in its first bits. -/
def cutI (a n : Int) : Int := a - a % lo n

theorem lo_nat (n : Int) : lo n = ((2 ^ (32 - n).toNat : Nat) : Int) := by
  unfold lo
  rw [Int.natCast_pow]
  rfl
theorem lo_pos (n : Int) : 0 < lo n := by
  rw [lo_nat]
  have := Nat.two_pow_pos (32 - n).toNat
  omega
theorem lo_le (n : Int) (h : 0 ≤ n) : lo n ≤ 4294967296 := by
  rw [lo_nat]
  have : 2 ^ (32 - n).toNat ≤ 2 ^ 32 := Nat.pow_le_pow_right (by decide) (by omega)
  have e : (2 : Nat) ^ 32 = 4294967296 := by decide
  omega
theorem lo_zero : lo 0 = 4294967296 := by decide
theorem lo_32 : lo 32 = 1 := by decide
theorem lo_half (n : Int) (h0 : 0 ≤ n) (h1 : n < 32) : lo n = 2 * lo (n + 1) := by
  rw [lo_nat, lo_nat]
  have e : (32 - n).toNat = (32 - (n + 1)).toNat + 1 := by omega
  rw [e, Nat.pow_succ]
  omega
/-- The block of a shorter prefix is made of so many of a longer one's. -/
theorem lo_dvd (n m : Int) (h : n ≤ m) (h1 : m ≤ 32) : lo m ∣ lo n := by
  rw [lo_nat, lo_nat]
  exact_mod_cast Nat.pow_dvd_pow 2 (by omega)

theorem nat_and_high (a k : Nat) (ha : a < 4294967296) (hk : k ≤ 32) : a &&& (4294967296 - 2 ^ k) = a - a % 2 ^ k := by
  have hp : 2 ^ k ≤ 2 ^ 32 := Nat.pow_le_pow_right (by decide) hk
  have e32 : (2 : Nat) ^ 32 = 4294967296 := by decide
  have hpos := Nat.two_pow_pos k
  have h1 : 4294967296 - 2 ^ k = 2 ^ 32 - ((2 ^ k - 1) + 1) := by omega
  have h2 : a - a % 2 ^ k = a / 2 ^ k * 2 ^ k := by
    have := Nat.div_add_mod a (2 ^ k)
    rw [Nat.mul_comm] at this
    omega
  rw [h1, h2]
  apply Nat.eq_of_testBit_eq
  intro i
  rw [Nat.testBit_and, Nat.testBit_two_pow_sub_succ (by omega), Nat.testBit_two_pow_sub_one, Nat.testBit_mul_two_pow, Nat.testBit_div_two_pow]
  by_cases hi : k ≤ i
  · have e : i - k + k = i := by omega
    have hn : ¬ i < k := by omega
    simp only [hi, decide_true, Bool.true_and, e, hn, decide_false, Bool.not_false, Bool.and_true]
    by_cases hi2 : i < 32
    · simp [hi2]
    · have : a.testBit i = false := Nat.testBit_lt_two_pow (Nat.lt_of_lt_of_le (by omega : a < 2 ^ 32) (Nat.pow_le_pow_right (by decide) (by omega)))
      simp [this]
  · have hn : i < k := by omega
    simp [hi, hn]
theorem maskI_nat (n : Int) (h : 1 ≤ n) : maskI n = ((4294967296 - 2 ^ (32 - min n 32).toNat : Nat) : Int) := by
  have hp : 2 ^ (32 - min n 32).toNat ≤ 2 ^ 32 := Nat.pow_le_pow_right (by decide) (by omega)
  have e32 : (2 : Nat) ^ 32 = 4294967296 := by decide
  unfold maskI
  rw [if_neg (by omega), lo_nat]
  omega
theorem maskI_range (n : Int) : 0 ≤ maskI n ∧ maskI n < 4294967296 := by
  by_cases h : n < 1
  · unfold maskI
    rw [if_pos h]
    omega
  · rw [maskI_nat n (by omega)]
    have := Nat.two_pow_pos (32 - min n 32).toNat
    omega
theorem and_mask (a n : Int) (h0 : 0 ≤ a) (h1 : a < 4294967296) : bits .and .u32 a (maskI n) = cutI a (clampI n) := by
  obtain ⟨x, rfl⟩ := Int.eq_ofNat_of_zero_le h0
  unfold cutI clampI
  by_cases h : n < 1
  · have e : max n 0 = 0 := by omega
    rw [e, show min (0 : Int) 32 = 0 by decide, lo_zero]
    have : maskI n = ((0 : Nat) : Int) := by unfold maskI; rw [if_pos h]; rfl
    rw [this, u32_and_nat x 0 (by omega) (by omega), Nat.and_zero]
    omega
  · have e : max n 0 = n := by omega
    have hp : 2 ^ (32 - min n 32).toNat ≤ 2 ^ 32 := Nat.pow_le_pow_right (by decide) (by omega)
    have e32 : (2 : Nat) ^ 32 = 4294967296 := by decide
    have hpos := Nat.two_pow_pos (32 - min n 32).toNat
    rw [e, maskI_nat n (by omega), u32_and_nat x _ (by omega) (by omega), nat_and_high x _ (by omega) (by omega), lo_nat]
    have hle := Nat.mod_le x (2 ^ (32 - min n 32).toNat)
    rw [Int.natCast_sub hle, Int.natCast_emod]
theorem nat_and_low (a k : Nat) : a &&& (2 ^ k - 1) = a % 2 ^ k := Nat.and_two_pow_sub_one_eq_mod a k
theorem andNot_mask (a n : Int) (h0 : 0 ≤ a) (h1 : a < 4294967296) : bits .andNot .u32 a (maskI n) = a % lo (clampI n) := by
  obtain ⟨x, rfl⟩ := Int.eq_ofNat_of_zero_le h0
  unfold clampI
  by_cases h : n < 1
  · have e : max n 0 = 0 := by omega
    rw [e, show min (0 : Int) 32 = 0 by decide, lo_zero]
    have : maskI n = ((0 : Nat) : Int) := by unfold maskI; rw [if_pos h]; rfl
    rw [this, u32_andNot_nat x 0 (by omega) (by omega), show 4294967295 - 0 = 2 ^ 32 - 1 by decide, nat_and_low]
    have e32 : (2 : Nat) ^ 32 = 4294967296 := by decide
    rw [e32]
    omega
  · have e : max n 0 = n := by omega
    have hp : 2 ^ (32 - min n 32).toNat ≤ 2 ^ 32 := Nat.pow_le_pow_right (by decide) (by omega)
    have e32 : (2 : Nat) ^ 32 = 4294967296 := by decide
    have hpos := Nat.two_pow_pos (32 - min n 32).toNat
    rw [e, maskI_nat n (by omega), u32_andNot_nat x _ (by omega) (by omega), show 4294967295 - (4294967296 - 2 ^ (32 - min n 32).toNat) = 2 ^ (32 - min n 32).toNat - 1 by omega, nat_and_low, lo_nat, Int.natCast_emod]
end Go.Proofs.YtokfgajfkopelaaDoor.Mine
