/- By gen_law.py: the cases, told by runs in the kernel. -/
import Derived.Test.YtgdgknjhhgkabaaGreatDoorNCase
set_option linter.unusedVariables false
set_option linter.unusedSimpArgs false
set_option linter.unusedVariables false
set_option maxRecDepth 1000000
namespace Go.Abs.Tryz
open Go.Abs Go.Proofs
theorem nrun_2_192 : allSpan (nChk 2) 192 64 = true := by kernel_rfl
theorem nrun_3_0 : allSpan (nChk 3) 0 64 = true := by kernel_rfl
theorem nrun_3_64 : allSpan (nChk 3) 64 64 = true := by kernel_rfl
theorem nrun_3_128 : allSpan (nChk 3) 128 64 = true := by kernel_rfl
theorem nrun_3_192 : allSpan (nChk 3) 192 64 = true := by kernel_rfl
theorem nrun_4_0 : allSpan (nChk 4) 0 64 = true := by kernel_rfl
theorem nrun_4_64 : allSpan (nChk 4) 64 64 = true := by kernel_rfl
theorem nrun_4_128 : allSpan (nChk 4) 128 64 = true := by kernel_rfl
end Go.Abs.Tryz
