import Derived.Test.YtcombonfmhgnjaaPLexx11
import Derived.Test.YtcombonfmhgnjaaPLexok
namespace Go.Proofs.Ytcombonfmhgnjaa.PLex
open Go.RowKit Go.Proofs.YtcombonfmhgnjaaW.PrintWords
/-- What is left of the law LexStrings: numbers and lists alone. -/
def amanuensislaw2_LexStrings.Pure : Prop := ∀ (l0_0 : List ByteArray) (l0_1 : List Int), ((l0_0.length * 16 ≤ 140737488351232 ∧ l0_0.length ≤ 9223372036854775807 ∧ ∀ y_ ∈ l0_0, y_.size ≤ 140737488351232) ∧ (l0_1.length * 8 ≤ 140737488351232 ∧ l0_1.length ≤ 9223372036854775807 ∧ ∀ y_ ∈ l0_1, (Lit.int .i64 y_).wf = true)) → ∃ k, amanuensislaw2_LexStrings.f k l0_0 l0_1 = some true
end Go.Proofs.Ytcombonfmhgnjaa.PLex
