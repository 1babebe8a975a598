/- By gen_law.py: facts, told by runs in the kernel. -/
import Derived.Test.YtgdgknjhhgkabaaGreatDoorNObj
set_option linter.unusedVariables false
set_option linter.unusedSimpArgs false
set_option linter.unusedVariables false
set_option maxRecDepth 1000000
namespace Go.Abs.Tryz
open Go.Abs Go.Proofs
theorem nq0_ok : chkF (run E2 100000).call 14 nq0 = true := by kernel_rfl
theorem nq1_ok : chkF (run E2 100000).call 14 nq1 = true := by kernel_rfl
theorem nq2_ok : chkF (run E2 100000).call 14 nq2 = true := by kernel_rfl
theorem nq3_ok : chkF (run E2 100000).call 15 nq3 = true := by kernel_rfl
theorem nq4_ok : chkF (run E2 100000).call 15 nq4 = true := by kernel_rfl
theorem nq5_ok : chkF (run E2 100000).call 11 nq5 = true := by kernel_rfl
theorem nq6_ok : chkF (run E2 100000).call 11 nq6 = true := by kernel_rfl
theorem nq7_ok : chkF (run E2 100000).call 11 nq7 = true := by kernel_rfl
theorem nq8_ok : chkF (run E2 100000).call 16 nq8 = true := by kernel_rfl
theorem nq9_ok : chkF (run E2 100000).call 16 nq9 = true := by kernel_rfl
theorem nq10_ok : chkF (run E2 100000).call 14 nq10 = true := by kernel_rfl
theorem nq11_ok : chkF (run E2 100000).call 14 nq11 = true := by kernel_rfl
theorem nq12_ok : chkF (run E2 100000).call 14 nq12 = true := by kernel_rfl
theorem nq13_ok : chkF (run E2 100000).call 15 nq13 = true := by kernel_rfl
end Go.Abs.Tryz
