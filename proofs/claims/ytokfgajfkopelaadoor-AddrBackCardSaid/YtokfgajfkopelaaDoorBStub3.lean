/- The contract of the document's digits, in the form in which the texts written by program ask for it. -/
import Derived.Test.YtokfgajfkopelaaDoorBDigits
namespace Go.Proofs.YtokfgajfkopelaaDoor.BP
open Go.RowKit Go.Proofs.YtokfgajfkopelaaDoor.Mine Go.Proofs.YtokfgajfkopelaaDoorW.PrintWords Go.Proofs.YtokfgajfkopelaaDoorW.PrintLast Go.Proofs.YtokfgajfkopelaaDoorW.PrintMore
set_option linter.unusedVariables false

def signpostref1_digits.f (k : Nat) (n : Int) : Option ByteArray := if 0 ≤ n ∧ n ≤ 255 then some (decS n) else none
theorem signpostref1_digits.mono : ∀ a0 k, LeO (signpostref1_digits.f k a0) (signpostref1_digits.f (k + 1) a0) := fun _ _ => LeO.refl _
theorem signpostref1_digits.calls (k : Nat) (a0 : Int) (r : ByteArray) (w : World) (h : signpostref1_digits.f k a0 = some r) :
    Calls Tryd.prog 43 #[.int .i64 a0] w fun e w' => e = .returned (.string r) ∧ Below w.heap.size w w' := by
  unfold signpostref1_digits.f at h
  split at h
  · rename_i hs
    injection h with h
    subst h
    exact digits_255 a0 hs.1 hs.2 w
  · exact absurd h (by simp)
end Go.Proofs.YtokfgajfkopelaaDoor.BP
