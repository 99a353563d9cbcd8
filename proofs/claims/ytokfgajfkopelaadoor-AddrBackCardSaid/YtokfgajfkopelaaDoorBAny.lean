/- Any: a prefix out of an address and a number; the numbers' ranges. -/
import Derived.Test.YtokfgajfkopelaaDoorBTold
namespace Go.Proofs.YtokfgajfkopelaaDoor.Mine
open Go.RowKit Go.Proofs.YtokfgajfkopelaaDoorW.PrintWords Go.Proofs.YtokfgajfkopelaaDoorW.PrintLast Go.Proofs.YtokfgajfkopelaaDoorW.PrintMore
set_option linter.unusedVariables false
set_option linter.unusedSimpArgs false
theorem wf_u32 {a : Int} (h : (Lit.int .u32 a).wf = true) : 0 ≤ a ∧ a < 4294967296 := by
  simp [Lit.wf, IntKind.min, IntKind.max, IntKind.bits, IntKind.signed] at h
  omega
theorem wf_i64 {a : Int} (h : (Lit.int .i64 a).wf = true) : -9223372036854775808 ≤ a ∧ a ≤ 9223372036854775807 := by
  simp [Lit.wf, IntKind.min, IntKind.max, IntKind.bits, IntKind.signed] at h
  omega
theorem tmod33 (n : Int) : Int.tmod n 33 = if 0 ≤ n then n % 33 else -((-n) % 33) := by
  by_cases h : 0 ≤ n
  · rw [if_pos h, Int.tmod_eq_emod_of_nonneg h]
  · rw [if_neg h]
    have : n = -(-n) := by omega
    conv => lhs; rw [this, Int.neg_tmod]
    rw [Int.tmod_eq_emod_of_nonneg (by omega)]
theorem within_f (n : Int) (h0 : -9223372036854775808 ≤ n) (h1 : n ≤ 9223372036854775807) : BP.signpostbook_Within.f n 0 32 = some (n % 33) := by
  unfold BP.signpostbook_Within.f
  have e : wrap64 (wrap64 (32 - 0) + 1) = 33 := by rw [wrap64_id (32 - 0) (by omega) (by omega), wrap64_id _ (by omega) (by omega)]; rfl
  rw [e, if_neg (by decide), tmod33]
  by_cases h : 0 ≤ n
  · rw [if_pos h, if_neg (by omega), Int.zero_add, wrap64_id _ (by omega) (by omega)]
  · rw [if_neg h]
    by_cases hz : -(-n % 33) < 0
    · rw [if_pos hz, wrap64_id (-(-n % 33) + 32) (by omega) (by omega), wrap64_id (-(-n % 33) + 32 - 0) (by omega) (by omega), wrap64_id (-(-n % 33) + 32 - 0 + 1) (by omega) (by omega), wrap64_id _ (by omega) (by omega)]
      congr 1
      omega
    · rw [if_neg hz, wrap64_id _ (by omega) (by omega)]
      congr 1
      omega
theorem any_f (k : Nat) (hk : 33 ≤ k) (a n : Int) (a0 : 0 ≤ a) (a1 : a < 4294967296) (h0 : -9223372036854775808 ≤ n) (h1 : n ≤ 9223372036854775807) : BP.signpostkeep_Any.f k a n = some (cutI a (n % 33), n % 33) := by
  unfold BP.signpostkeep_Any.f
  rw [within_f n h0 h1]
  simp only [Option.bind_some]
  rw [refOf_f k hk a _ a0 a1, clampI_in (n % 33) (by omega) (by omega)]
  rfl
/-- Any is a prefix that is right: told by its three facts. -/
theorem any_is (a n : Int) (a0 : 0 ≤ a) (a1 : a < 4294967296) : ∃ b m, cutI a (n % 33) = b ∧ n % 33 = m ∧ 0 ≤ b ∧ b < 4294967296 ∧ 0 ≤ m ∧ m ≤ 32 ∧ rightB b m = true := by
  have h := cutI_range a (n % 33) a0 a1
  exact ⟨_, _, rfl, rfl, h.1, h.2.2, by omega, by omega, right_cut a _ (by omega) (by omega)⟩
end Go.Proofs.YtokfgajfkopelaaDoor.Mine
