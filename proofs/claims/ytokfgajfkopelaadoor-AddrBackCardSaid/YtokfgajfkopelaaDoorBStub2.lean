/- Contracts of addr.Parse and addr.Text by their plain words. -/
import Derived.Test.YtokfgajfkopelaaDoorBNum
namespace Go.Proofs.YtokfgajfkopelaaDoor.BP
open Go.RowKit Go.Proofs.YtokfgajfkopelaaDoor.Mine Go.Proofs.YtokfgajfkopelaaDoorW.PrintWords Go.Proofs.YtokfgajfkopelaaDoorW.PrintLast Go.Proofs.YtokfgajfkopelaaDoorW.PrintMore
set_option linter.unusedVariables false

def addr_ParseP.f (s : ByteArray) : Option (Int × Int × Bool) := if s.size < 1000 then some (parseP s) else none
theorem addr_ParseP.calls (a0 : ByteArray) (r1 r2 : Int) (r3 : Bool) (w : World) (henv : Env w) (h : addr_ParseP.f a0 = some (r1, r2, r3)) :
    Calls Tryd.prog 12 #[.string a0] w fun e w' => e = .returned (.tuple #[.agg #[.int .u32 r1, .int .i64 r2], .bool r3]) ∧ Below w.heap.size w w' := by
  unfold addr_ParseP.f at h
  split at h
  · rename_i hs
    exact addr_Parse.calls 3000 a0 r1 r2 r3 w henv ((parse_f 3000 a0 hs (Nat.le_refl _)).trans h)
  · exact absurd h (by simp)
def addr_TextP.f (a n : Int) : Option ByteArray := if 0 ≤ a ∧ a < 4294967296 then some (textP a n) else none
theorem addr_TextP.calls (a0_0 a0_1 : Int) (r : ByteArray) (w : World) (henv : Env w) (h : addr_TextP.f a0_0 a0_1 = some r) :
    Calls Tryd.prog 13 #[.agg #[.int .u32 a0_0, .int .i64 a0_1]] w fun e w' => e = .returned (.string r) ∧ Below w.heap.size w w' := by
  unfold addr_TextP.f at h
  split at h
  · rename_i hs
    injection h with h
    subst h
    exact text_any a0_0 a0_1 hs.1 hs.2 w henv
  · exact absurd h (by simp)
end Go.Proofs.YtokfgajfkopelaaDoor.BP
