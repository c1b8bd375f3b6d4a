/- Sagas and records: the same, copied, begun, ended. -/
import Derived.Test.YtooiiihaijpbaaaRxM1
set_option linter.unusedVariables false
set_option linter.unusedSimpArgs false
namespace Go.Proofs.Ytooiiihaijpbaaa.Rx
open Go.Rx Go.Proofs

end Go.Proofs.Ytooiiihaijpbaaa.Rx
