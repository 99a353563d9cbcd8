/- A walk of signpostbook.Within. -/
import Derived.Test.YtbjfkonkmgghfaaALib
namespace Go.Proofs.Ytbjfkonkmgghfaa.Mine
open Go.RowKit Go.Proofs.YtbjfkonkmgghfaaW.PrintWords Go.Proofs.YtbjfkonkmgghfaaW.PrintLast Go.Proofs.YtbjfkonkmgghfaaW.PrintMore
set_option linter.unusedVariables false
set_option linter.unusedSimpArgs false

set_option maxHeartbeats 800000 in
theorem within_any (n lo hi : Int) (h : lo ≤ hi) (h0 : -1099511627776 ≤ lo) (h1 : hi ≤ 1099511627776) (w : World) :
    Calls Try.prog 13 #[.int .i64 n, .int .i64 lo, .int .i64 hi] w fun e w' => ∃ r, lo ≤ r ∧ r ≤ hi ∧ e = .returned (.int .i64 r) ∧ w = w' := by
  have d0 : ¬ (hi - lo + 1 = 0) := by omega
  have l1 := Int.tmod_lt_of_pos n (show 0 < hi - lo + 1 by omega)
  have l2 := Int.lt_tmod_of_pos n (show 0 < hi - lo + 1 by omega)
  go_enter Try.func13, Try.ntmps13
  go_wp2
  all_goals (go_ret; exact ⟨_, by omega, by omega, rfl, rfl⟩)
end Go.Proofs.Ytbjfkonkmgghfaa.Mine
