/- The pure side of LexNames: the law's own texts, compared by the kernel. -/
import Derived.Test.YtcombonfmhgnjaaSayLexNames
namespace Go.Proofs.Ytcombonfmhgnjaa.Pure
open Go.RowKit Go.Proofs.YtcombonfmhgnjaaW.PrintWords Go.Proofs.Ytcombonfmhgnjaa.PLex
theorem LexNames_run : amanuensislaw2_LexNames.f 60 [] [] = some true := by decide +kernel
theorem LexNames : amanuensislaw2_LexNames.Pure := fun _ _ _ => ⟨60, LexNames_run⟩
end Go.Proofs.Ytcombonfmhgnjaa.Pure
