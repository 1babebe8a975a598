/- By gen_law.py: facts, told by runs in the kernel. -/
import Derived.Test.YtgdgknjhhgkabaaGreatDoorNObj
set_option linter.unusedVariables false
set_option linter.unusedSimpArgs false
set_option linter.unusedVariables false
set_option maxRecDepth 1000000
namespace Go.Abs.Tryz
open Go.Abs Go.Proofs
theorem nq14_ok : chkF (run E2 100000).call 15 nq14 = true := by kernel_rfl
theorem nq15_ok : chkF (run E2 100000).call 11 nq15 = true := by kernel_rfl
theorem nq16_ok : chkF (run E2 100000).call 11 nq16 = true := by kernel_rfl
theorem nq17_ok : chkF (run E2 100000).call 11 nq17 = true := by kernel_rfl
theorem nq18_ok : chkF (run E2 100000).call 16 nq18 = true := by kernel_rfl
theorem nq19_ok : chkF (run E2 100000).call 16 nq19 = true := by kernel_rfl
theorem nq20_ok : chkF (run E2 100000).call 15 nq20 = true := by kernel_rfl
theorem nq21_ok : chkF (run E2 100000).call 14 nq21 = true := by kernel_rfl
theorem nq22_ok : chkF (run E2 100000).call 14 nq22 = true := by kernel_rfl
theorem nq23_ok : chkF (run E2 100000).call 14 nq23 = true := by kernel_rfl
theorem nq24_ok : chkF (run E2 100000).call 15 nq24 = true := by kernel_rfl
theorem nq25_ok : chkF (run E2 100000).call 15 nq25 = true := by kernel_rfl
theorem nq26_ok : chkF (run E2 100000).call 11 nq26 = true := by kernel_rfl
end Go.Abs.Tryz
