/- By gen_law.py: the cases, told by runs in the kernel. -/
import Derived.Test.YtgdgknjhhgkabaaGreatDoorNCase
set_option linter.unusedVariables false
set_option linter.unusedSimpArgs false
set_option linter.unusedVariables false
set_option maxRecDepth 1000000
namespace Go.Abs.Tryz
open Go.Abs Go.Proofs
theorem nrun_4_192 : allSpan (nChk 4) 192 64 = true := by kernel_rfl
end Go.Abs.Tryz
