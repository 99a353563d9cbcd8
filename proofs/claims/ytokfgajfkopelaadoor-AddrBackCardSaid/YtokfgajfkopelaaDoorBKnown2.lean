/- What known answers. -/
import Derived.Test.YtokfgajfkopelaaDoorBKnown
namespace Go.Proofs.YtokfgajfkopelaaDoor.Mine
open Go.RowKit Go.Proofs.YtokfgajfkopelaaDoorW.PrintWords Go.Proofs.YtokfgajfkopelaaDoorW.PrintLast Go.Proofs.YtokfgajfkopelaaDoorW.PrintMore
set_option maxRecDepth 100000 in
theorem known_f : BP.signpostlaw1_known.f = some true := by decide +kernel
end Go.Proofs.YtokfgajfkopelaaDoor.Mine
