/- The functions of the seat, as the small machine runs them. -/
import Derived.Test.YtfaphhcloanhnaaAmCode
import Derived.Test.YtfaphhcloanhnaaAmTac
set_option linter.unusedSimpArgs false
set_option linter.unusedVariables false
namespace Go.Proofs.Ytfaphhcloanhnaa
open Go.Am
theorem fns_of {E : Env} {f : FuncId} {fn : AFn} (hF : E.fns = fnsT) (h : fnsT f = some fn) : E.fns f = some fn := by rw [hF]; exact h
end Go.Proofs.Ytfaphhcloanhnaa
