import Derived.Test.YtcombonfmhgnjaaPLexx0
import Derived.Test.YtcombonfmhgnjaaLift
set_option linter.unusedVariables false
namespace Go.Proofs.Ytcombonfmhgnjaa.PLex
open Go.RowKit Go.Proofs.YtcombonfmhgnjaaW.PrintWords Go.Proofs.Ytcombonfmhgnjaa.Lift
end Go.Proofs.Ytcombonfmhgnjaa.PLex
