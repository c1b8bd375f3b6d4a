/- The pure side of LexStrings: the law's own texts, compared by the kernel. -/
import Derived.Test.YtcombonfmhgnjaaSayLexStrings
namespace Go.Proofs.Ytcombonfmhgnjaa.Pure
open Go.RowKit Go.Proofs.YtcombonfmhgnjaaW.PrintWords Go.Proofs.Ytcombonfmhgnjaa.PLex
theorem LexStrings_run : amanuensislaw2_LexStrings.f 300 [] [] = some true := by decide +kernel
theorem LexStrings : amanuensislaw2_LexStrings.Pure := fun _ _ _ => ⟨300, LexStrings_run⟩
end Go.Proofs.Ytcombonfmhgnjaa.Pure
