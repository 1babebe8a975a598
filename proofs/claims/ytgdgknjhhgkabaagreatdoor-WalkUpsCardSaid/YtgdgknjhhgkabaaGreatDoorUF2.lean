/- By gen_fact.py: facts, told by runs in the kernel. -/
import Derived.Test.YtgdgknjhhgkabaaGreatDoorUObj
set_option linter.unusedVariables false
set_option linter.unusedSimpArgs false
set_option linter.unusedVariables false
set_option maxRecDepth 1000000
namespace Go.Abs.Tryz
open Go.Abs Go.Proofs
theorem q44_ok : chkF (run E2 100000).call 10 q44 = true := by kernel_rfl
theorem q45_ok : chkF (run E2 100000).call 16 q45 = true := by kernel_rfl
theorem q46_ok : chkF (run E2 100000).call 94 q46 = true := by kernel_rfl
theorem q47_ok : chkF (run E2 100000).call 16 q47 = true := by kernel_rfl
theorem q48_ok : chkF (run E2 100000).call 94 q48 = true := by kernel_rfl
theorem q49_ok : chkF (run E2 100000).call 94 q49 = true := by kernel_rfl
theorem q50_ok : chkF (run E2 100000).call 94 q50 = true := by kernel_rfl
theorem q51_ok : chkF (run E2 100000).call 16 q51 = true := by kernel_rfl
theorem q52_ok : chkF (run E2 100000).call 94 q52 = true := by kernel_rfl
theorem q53_ok : chkF (run E2 100000).call 16 q53 = true := by kernel_rfl
theorem q54_ok : chkF (run E2 100000).call 94 q54 = true := by kernel_rfl
theorem q55_ok : chkF (run E2 100000).call 16 q55 = true := by kernel_rfl
theorem q56_ok : chkF (run E2 100000).call 94 q56 = true := by kernel_rfl
theorem q57_ok : chkF (run E2 100000).call 16 q57 = true := by kernel_rfl
theorem q58_ok : chkF (run E2 100000).call 94 q58 = true := by kernel_rfl
theorem q59_ok : chkF (run E2 100000).call 10 q59 = true := by kernel_rfl
theorem q60_ok : chkF (run E2 100000).call 10 q60 = true := by kernel_rfl
theorem q61_ok : chkF (run E2 100000).call 16 q61 = true := by kernel_rfl
theorem q62_ok : chkF (run E2 100000).call 94 q62 = true := by kernel_rfl
theorem q63_ok : chkF (run E2 100000).call 16 q63 = true := by kernel_rfl
theorem q64_ok : chkF (run E2 100000).call 94 q64 = true := by kernel_rfl
theorem q65_ok : chkF (run E2 100000).call 94 q65 = true := by kernel_rfl
theorem q66_ok : chkF (run E2 100000).call 94 q66 = true := by kernel_rfl
theorem q67_ok : chkF (run E2 100000).call 16 q67 = true := by kernel_rfl
theorem q68_ok : chkF (run E2 100000).call 94 q68 = true := by kernel_rfl
theorem q69_ok : chkF (run E2 100000).call 16 q69 = true := by kernel_rfl
end Go.Abs.Tryz
