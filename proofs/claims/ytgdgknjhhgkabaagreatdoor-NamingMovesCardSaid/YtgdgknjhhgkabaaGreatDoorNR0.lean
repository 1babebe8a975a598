/- By gen_law.py: the cases, told by runs in the kernel. -/
import Derived.Test.YtgdgknjhhgkabaaGreatDoorNCase
set_option linter.unusedVariables false
set_option linter.unusedSimpArgs false
set_option linter.unusedVariables false
set_option maxRecDepth 1000000
namespace Go.Abs.Tryz
open Go.Abs Go.Proofs
theorem nrun_0_0 : allSpan (nChk 0) 0 64 = true := by kernel_rfl
theorem nrun_0_64 : allSpan (nChk 0) 64 64 = true := by kernel_rfl
theorem nrun_0_128 : allSpan (nChk 0) 128 64 = true := by kernel_rfl
theorem nrun_0_192 : allSpan (nChk 0) 192 64 = true := by kernel_rfl
theorem nrun_1_0 : allSpan (nChk 1) 0 64 = true := by kernel_rfl
theorem nrun_1_64 : allSpan (nChk 1) 64 64 = true := by kernel_rfl
theorem nrun_1_128 : allSpan (nChk 1) 128 64 = true := by kernel_rfl
theorem nrun_1_192 : allSpan (nChk 1) 192 64 = true := by kernel_rfl
theorem nrun_2_0 : allSpan (nChk 2) 0 64 = true := by kernel_rfl
theorem nrun_2_64 : allSpan (nChk 2) 64 64 = true := by kernel_rfl
theorem nrun_2_128 : allSpan (nChk 2) 128 64 = true := by kernel_rfl
end Go.Abs.Tryz
