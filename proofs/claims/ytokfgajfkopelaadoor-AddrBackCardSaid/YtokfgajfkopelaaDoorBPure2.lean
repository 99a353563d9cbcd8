/- What Up, Half and Meet compute, in plain words. -/
import Derived.Test.YtokfgajfkopelaaDoorBPure
namespace Go.Proofs.YtokfgajfkopelaaDoor.Mine
open Go.RowKit Go.Proofs.YtokfgajfkopelaaDoorW.PrintWords Go.Proofs.YtokfgajfkopelaaDoorW.PrintLast Go.Proofs.YtokfgajfkopelaaDoorW.PrintMore
set_option linter.unusedVariables false
set_option linter.unusedSimpArgs false

def upP (a n : Int) : Int × Int × Bool := if rightB a n = true then (if n = 0 then (0, 0, false) else (cutI a (n - 1), n - 1, true)) else (0, 0, false)
def halfP (a n : Int) (high : Bool) : Int × Int × Bool := if rightB a n = true then (if n = 32 then (0, 0, false) else (if high = true then a + lo (n + 1) else a, n + 1, true)) else (0, 0, false)
def meetN (a b : Int) : Nat → Int × Int
  | 0 => (0, 0)
  | t + 1 => if cutI a (t + 1 : Nat) = cutI b (t + 1 : Nat) then (cutI a (t + 1 : Nat), ((t + 1 : Nat) : Int)) else meetN a b t
def meetP (a n b m : Int) : Int × Int := if rightB a n = true then (if rightB b m = true then meetN a b (min n m).toNat else (0, 0)) else (0, 0)

theorem right_iff (a n : Int) : rightB a n = true ↔ 0 ≤ n ∧ n ≤ 32 ∧ a % lo n = 0 := by
  unfold rightB
  simp
theorem up_f (a n : Int) (h0 : 0 ≤ a) (h1 : a < 4294967296) : BP.addr_Up.f a n = some (upP a n) := by
  unfold BP.addr_Up.f upP
  rw [right_f a n h0 h1]
  simp only [Option.bind_some]
  cases hr : rightB a n
  · rfl
  · obtain ⟨r0, r1, _⟩ := (right_iff a n).1 hr
    simp only [if_true]
    by_cases h : n = 0
    · rw [if_pos h, if_pos h]
    · rw [if_neg h, if_neg h, wrap64_id _ (by omega) (by omega), of_f a _ h0 h1 (by omega), clampI_in _ (by omega) (by omega)]
      rfl
theorem or_bit (a n : Int) (h0 : 0 ≤ a) (h1 : a < 4294967296) (hn : 0 ≤ n) (hm : n < 32) (hr : a % lo n = 0) : bits .or .u32 a (lo (n + 1)) = a + lo (n + 1) := by
  have e : lo n = 2 ^ (32 - n).toNat := rfl
  have hh := lo_half n hn hm
  have hp := lo_pos (n + 1)
  have hl := lo_le (n + 1) (by omega)
  have hl2 := lo_le n hn
  exact bits_join .u32 32 (by decide) (fun x x0 x1 => by rw [IntKind.wrap_u32]; exact Int.emod_eq_of_lt x0 (by exact x1)) (32 - n).toNat a (lo (n + 1)) h0 (by rw [← e]; exact hr) (by exact h1) (by omega) (by rw [← e]; omega) (by show lo (n + 1) < 4294967296; omega)
theorem shl_one (n : Int) (h0 : 0 ≤ n) (h1 : n < 32) : shl .u32 1 (31 - n) = lo (n + 1) := by
  unfold shl lo
  have hb : min (31 - n).toNat IntKind.u32.bits = (31 - n).toNat := by
    have : IntKind.u32.bits = 32 := rfl
    omega
  rw [hb, IntKind.wrap_u32, Int.one_mul, show (32 - (n + 1)).toNat = (31 - n).toNat by omega]
  have hp : 2 ^ (31 - n).toNat ≤ 2 ^ 31 := Nat.pow_le_pow_right (by decide) (by omega)
  have e31 : (2 : Nat) ^ 31 = 2147483648 := by decide
  have e2 : ((2 : Int) ^ (31 - n).toNat) = ((2 ^ (31 - n).toNat : Nat) : Int) := by rw [Int.natCast_pow]; rfl
  rw [e2]
  generalize 2 ^ (31 - n).toNat = p at *
  exact Int.emod_eq_of_lt (by omega) (by omega)
theorem half_f (k : Nat) (a n : Int) (high : Bool) (h0 : 0 ≤ a) (h1 : a < 4294967296) : BP.addr_Half.f (k + 1) a n high = some (halfP a n high) := by
  unfold BP.addr_Half.f halfP
  rw [right_f a n h0 h1]
  simp only [Option.bind_some]
  cases hr : rightB a n
  · simp [BP.addr_Half.j0]
  · obtain ⟨r0, r1, r2⟩ := (right_iff a n).1 hr
    simp only [if_true]
    simp only [BP.addr_Half.j0]
    by_cases h : n = 32
    · rw [if_pos (by simp [h]), if_pos h]
    · rw [if_neg (by simp [h]), if_neg h, wrap64_id (n + 1) (by omega) (by omega), wrap64_id (31 - n) (by omega) (by omega)]
      cases high
      · rfl
      · rw [if_pos rfl, if_pos (by omega), if_pos rfl, shl_one n r0 (by omega), or_bit a n h0 h1 r0 (by omega) r2]
theorem cutI_zero (a : Int) (h0 : 0 ≤ a) (h1 : a < 4294967296) : cutI a 0 = 0 := by
  unfold cutI
  rw [lo_zero]
  omega
theorem meet_l (a b n m : Int) (a0 : 0 ≤ a) (a1 : a < 4294967296) (b0 : 0 ≤ b) (b1 : b < 4294967296) : ∀ (t k : Nat), t ≤ 32 → t < k → BP.addr_Meet.l0 k t a n b m = some (meetN a b t) := by
  intro t
  induction t with
  | zero =>
    intro k ht hk
    obtain ⟨k, rfl⟩ : ∃ j, k = j + 1 := ⟨k - 1, by omega⟩
    unfold BP.addr_Meet.l0
    rw [show ((0 : Nat) : Int) = 0 from rfl, mask_f 0 (by omega)]
    simp only [Option.bind_some, and_mask a 0 a0 a1, and_mask b 0 b0 b1, of_f a 0 a0 a1 (by omega), clampI_in 0 (by omega) (by omega), cutI_zero a a0 a1, cutI_zero b b0 b1, if_true]
    rfl
  | succ t ih =>
    intro k ht hk
    obtain ⟨k, rfl⟩ : ∃ j, k = j + 1 := ⟨k - 1, by omega⟩
    unfold BP.addr_Meet.l0 meetN
    rw [mask_f _ (by omega)]
    simp only [Option.bind_some, and_mask a _ a0 a1, and_mask b _ b0 b1, of_f a _ a0 a1 (show ((t + 1 : Nat) : Int) ≤ 9223372036854775807 by omega), clampI_in ((t + 1 : Nat) : Int) (by omega) (by omega)]
    by_cases h : cutI a ((t + 1 : Nat) : Int) = cutI b ((t + 1 : Nat) : Int)
    · rw [if_pos h, if_pos h]
    · rw [if_neg h, if_neg h, wrap64_id _ (by omega) (by omega), show ((t + 1 : Nat) : Int) - 1 = (t : Int) by omega]
      exact ih k (by omega) (by omega)
theorem meet_f (k : Nat) (hk : 34 ≤ k) (a n b m : Int) (a0 : 0 ≤ a) (a1 : a < 4294967296) (b0 : 0 ≤ b) (b1 : b < 4294967296) : BP.addr_Meet.f k a n b m = some (meetP a n b m) := by
  obtain ⟨k, rfl⟩ : ∃ j, k = j + 1 := ⟨k - 1, by omega⟩
  unfold BP.addr_Meet.f meetP
  rw [right_f a n a0 a1]
  simp only [Option.bind_some]
  cases hr : rightB a n
  · simp [BP.addr_Meet.j0]
  · rw [right_f b m b0 b1]
    simp only [Option.bind_some, if_true]
    cases hs : rightB b m
    · simp [BP.addr_Meet.j0]
    · obtain ⟨r0, r1, r2⟩ := (right_iff a n).1 hr
      obtain ⟨s0, s1, s2⟩ := (right_iff b m).1 hs
      unfold BP.addr_Meet.j0
      have e : mn n m = (((min n m).toNat : Nat) : Int) := by unfold mn; split <;> omega
      simp only [Bool.not_true, Bool.false_eq_true, if_false, if_true, e]
      exact meet_l a b n m a0 a1 b0 b1 _ k (by omega) (by omega)
end Go.Proofs.YtokfgajfkopelaaDoor.Mine
