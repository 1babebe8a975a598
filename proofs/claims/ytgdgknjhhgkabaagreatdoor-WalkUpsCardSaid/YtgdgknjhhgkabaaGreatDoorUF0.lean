/- By gen_fact.py: facts, told by runs in the kernel. -/
import Derived.Test.YtgdgknjhhgkabaaGreatDoorUObj
set_option linter.unusedVariables false
set_option linter.unusedSimpArgs false
set_option linter.unusedVariables false
set_option maxRecDepth 1000000
namespace Go.Abs.Tryz
open Go.Abs Go.Proofs
theorem q0_ok : chkF (run E2 100000).call 10 q0 = true := by kernel_rfl
theorem q1_ok : chkF (run E2 100000).call 16 q1 = true := by kernel_rfl
theorem q2_ok : chkF (run E2 100000).call 94 q2 = true := by kernel_rfl
theorem q3_ok : chkF (run E2 100000).call 16 q3 = true := by kernel_rfl
theorem q4_ok : chkF (run E2 100000).call 94 q4 = true := by kernel_rfl
theorem q5_ok : chkF (run E2 100000).call 94 q5 = true := by kernel_rfl
theorem q6_ok : chkF (run E2 100000).call 94 q6 = true := by kernel_rfl
theorem q7_ok : chkF (run E2 100000).call 10 q7 = true := by kernel_rfl
theorem q8_ok : chkF (run E2 100000).call 10 q8 = true := by kernel_rfl
theorem q9_ok : chkF (run E2 100000).call 16 q9 = true := by kernel_rfl
theorem q10_ok : chkF (run E2 100000).call 94 q10 = true := by kernel_rfl
theorem q11_ok : chkF (run E2 100000).call 16 q11 = true := by kernel_rfl
theorem q12_ok : chkF (run E2 100000).call 94 q12 = true := by kernel_rfl
theorem q13_ok : chkF (run E2 100000).call 94 q13 = true := by kernel_rfl
theorem q14_ok : chkF (run E2 100000).call 94 q14 = true := by kernel_rfl
theorem q15_ok : chkF (run E2 100000).call 16 q15 = true := by kernel_rfl
theorem q16_ok : chkF (run E2 100000).call 94 q16 = true := by kernel_rfl
theorem q17_ok : chkF (run E2 100000).call 10 q17 = true := by kernel_rfl
theorem q18_ok : chkF (run E2 100000).call 10 q18 = true := by kernel_rfl
theorem q19_ok : chkF (run E2 100000).call 16 q19 = true := by kernel_rfl
end Go.Abs.Tryz
