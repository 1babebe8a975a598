/- By gen_law.py: facts, told by runs in the kernel. -/
import Derived.Test.YtgdgknjhhgkabaaGreatDoorNObj
set_option linter.unusedVariables false
set_option linter.unusedSimpArgs false
set_option linter.unusedVariables false
set_option maxRecDepth 1000000
namespace Go.Abs.Tryz
open Go.Abs Go.Proofs
theorem nq45_ok : chkF (run E2 100000).call 15 nq45 = true := by kernel_rfl
theorem nq46_ok : chkF (run E2 100000).call 14 nq46 = true := by kernel_rfl
theorem nq47_ok : chkF (run E2 100000).call 14 nq47 = true := by kernel_rfl
theorem nq48_ok : chkF (run E2 100000).call 14 nq48 = true := by kernel_rfl
theorem nq49_ok : chkF (run E2 100000).call 15 nq49 = true := by kernel_rfl
theorem nq50_ok : chkF (run E2 100000).call 15 nq50 = true := by kernel_rfl
theorem nq51_ok : chkF (run E2 100000).call 11 nq51 = true := by kernel_rfl
theorem nq52_ok : chkF (run E2 100000).call 11 nq52 = true := by kernel_rfl
theorem nq53_ok : chkF (run E2 100000).call 11 nq53 = true := by kernel_rfl
theorem nq54_ok : chkF (run E2 100000).call 16 nq54 = true := by kernel_rfl
theorem nq55_ok : chkF (run E2 100000).call 16 nq55 = true := by kernel_rfl
theorem nq56_ok : chkF (run E2 100000).call 15 nq56 = true := by kernel_rfl
theorem nq57_ok : chkF (run E2 100000).call 15 nq57 = true := by kernel_rfl
theorem nq58_ok : chkF (run E2 100000).call 15 nq58 = true := by kernel_rfl
end Go.Abs.Tryz
