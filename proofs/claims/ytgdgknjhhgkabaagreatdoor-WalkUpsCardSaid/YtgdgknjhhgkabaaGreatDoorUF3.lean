/- By gen_fact.py: facts, told by runs in the kernel. -/
import Derived.Test.YtgdgknjhhgkabaaGreatDoorUObj
set_option linter.unusedVariables false
set_option linter.unusedSimpArgs false
set_option linter.unusedVariables false
set_option maxRecDepth 1000000
namespace Go.Abs.Tryz
open Go.Abs Go.Proofs
theorem q70_ok : chkF (run E2 100000).call 94 q70 = true := by kernel_rfl
theorem q71_ok : chkF (run E2 100000).call 16 q71 = true := by kernel_rfl
theorem q72_ok : chkF (run E2 100000).call 94 q72 = true := by kernel_rfl
theorem q73_ok : chkF (run E2 100000).call 16 q73 = true := by kernel_rfl
theorem q74_ok : chkF (run E2 100000).call 94 q74 = true := by kernel_rfl
theorem q75_ok : chkF (run E2 100000).call 16 q75 = true := by kernel_rfl
theorem q76_ok : chkF (run E2 100000).call 94 q76 = true := by kernel_rfl
theorem q77_ok : chkF (run E2 100000).call 10 q77 = true := by kernel_rfl
theorem q78_ok : chkF (run E2 100000).call 10 q78 = true := by kernel_rfl
theorem q79_ok : chkF (run E2 100000).call 16 q79 = true := by kernel_rfl
theorem q80_ok : chkF (run E2 100000).call 94 q80 = true := by kernel_rfl
theorem q81_ok : chkF (run E2 100000).call 16 q81 = true := by kernel_rfl
theorem q82_ok : chkF (run E2 100000).call 94 q82 = true := by kernel_rfl
theorem q83_ok : chkF (run E2 100000).call 94 q83 = true := by kernel_rfl
theorem q84_ok : chkF (run E2 100000).call 94 q84 = true := by kernel_rfl
theorem q85_ok : chkF (run E2 100000).call 16 q85 = true := by kernel_rfl
theorem q86_ok : chkF (run E2 100000).call 94 q86 = true := by kernel_rfl
theorem q87_ok : chkF (run E2 100000).call 16 q87 = true := by kernel_rfl
theorem q88_ok : chkF (run E2 100000).call 94 q88 = true := by kernel_rfl
theorem q89_ok : chkF (run E2 100000).call 16 q89 = true := by kernel_rfl
theorem q90_ok : chkF (run E2 100000).call 94 q90 = true := by kernel_rfl
theorem q91_ok : chkF (run E2 100000).call 16 q91 = true := by kernel_rfl
theorem q92_ok : chkF (run E2 100000).call 94 q92 = true := by kernel_rfl
theorem q93_ok : chkF (run E2 100000).call 16 q93 = true := by kernel_rfl
theorem q94_ok : chkF (run E2 100000).call 94 q94 = true := by kernel_rfl
theorem q95_ok : chkF (run E2 100000).call 16 q95 = true := by kernel_rfl
theorem q96_ok : chkF (run E2 100000).call 94 q96 = true := by kernel_rfl
end Go.Abs.Tryz
