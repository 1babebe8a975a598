/- By gen_law.py: the cases, told by runs in the kernel. -/
import Derived.Test.YtgdgknjhhgkabaaGreatDoorLCase
set_option linter.unusedVariables false
set_option linter.unusedSimpArgs false
set_option linter.unusedVariables false
set_option maxRecDepth 1000000
namespace Go.Abs.Tryz
open Go.Abs Go.Proofs
theorem lrun_0 : lChk 0 = true := by kernel_rfl
theorem lrun_1 : lChk 1 = true := by kernel_rfl
theorem lrun_2 : lChk 2 = true := by kernel_rfl
theorem lrun_3 : lChk 3 = true := by kernel_rfl
theorem lrun_4 : lChk 4 = true := by kernel_rfl
theorem lrun_5 : lChk 5 = true := by kernel_rfl
theorem lrun_6 : lChk 6 = true := by kernel_rfl
theorem lrun_7 : lChk 7 = true := by kernel_rfl
theorem lrun_8 : lChk 8 = true := by kernel_rfl
theorem lrun_9 : lChk 9 = true := by kernel_rfl
theorem lrun_10 : lChk 10 = true := by kernel_rfl
theorem lrun_11 : lChk 11 = true := by kernel_rfl
theorem lrun_12 : lChk 12 = true := by kernel_rfl
end Go.Abs.Tryz
