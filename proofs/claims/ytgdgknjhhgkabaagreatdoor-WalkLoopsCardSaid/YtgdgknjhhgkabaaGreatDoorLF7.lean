/- By gen_law.py: facts, told by runs in the kernel. -/
import Derived.Test.YtgdgknjhhgkabaaGreatDoorLObj
set_option linter.unusedVariables false
set_option linter.unusedSimpArgs false
set_option linter.unusedVariables false
set_option maxRecDepth 1000000
namespace Go.Abs.Tryz
open Go.Abs Go.Proofs
theorem lq416_ok : chkF (run E2 100000).call 94 lq416 = true := by kernel_rfl
theorem lq417_ok : chkF (run E2 100000).call 16 lq417 = true := by kernel_rfl
theorem lq418_ok : chkF (run E2 100000).call 82 lq418 = true := by kernel_rfl
theorem lq419_ok : chkF (run E2 100000).call 94 lq419 = true := by kernel_rfl
theorem lq420_ok : chkF (run E2 100000).call 16 lq420 = true := by kernel_rfl
theorem lq421_ok : chkF (run E2 100000).call 82 lq421 = true := by kernel_rfl
theorem lq422_ok : chkF (run E2 100000).call 94 lq422 = true := by kernel_rfl
theorem lq423_ok : chkF (run E2 100000).call 16 lq423 = true := by kernel_rfl
theorem lq424_ok : chkF (run E2 100000).call 82 lq424 = true := by kernel_rfl
theorem lq425_ok : chkF (run E2 100000).call 94 lq425 = true := by kernel_rfl
theorem lq426_ok : chkF (run E2 100000).call 16 lq426 = true := by kernel_rfl
theorem lq427_ok : chkF (run E2 100000).call 82 lq427 = true := by kernel_rfl
theorem lq428_ok : chkF (run E2 100000).call 94 lq428 = true := by kernel_rfl
theorem lq429_ok : chkF (run E2 100000).call 16 lq429 = true := by kernel_rfl
theorem lq430_ok : chkF (run E2 100000).call 82 lq430 = true := by kernel_rfl
theorem lq431_ok : chkF (run E2 100000).call 94 lq431 = true := by kernel_rfl
theorem lq432_ok : chkF (run E2 100000).call 16 lq432 = true := by kernel_rfl
theorem lq433_ok : chkF (run E2 100000).call 82 lq433 = true := by kernel_rfl
theorem lq434_ok : chkF (run E2 100000).call 94 lq434 = true := by kernel_rfl
theorem lq435_ok : chkF (run E2 100000).call 16 lq435 = true := by kernel_rfl
end Go.Abs.Tryz
