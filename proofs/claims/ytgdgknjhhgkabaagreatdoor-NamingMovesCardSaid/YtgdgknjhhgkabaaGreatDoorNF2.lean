/- By gen_law.py: facts, told by runs in the kernel. -/
import Derived.Test.YtgdgknjhhgkabaaGreatDoorNObj
set_option linter.unusedVariables false
set_option linter.unusedSimpArgs false
set_option linter.unusedVariables false
set_option maxRecDepth 1000000
namespace Go.Abs.Tryz
open Go.Abs Go.Proofs
theorem nq27_ok : chkF (run E2 100000).call 11 nq27 = true := by kernel_rfl
theorem nq28_ok : chkF (run E2 100000).call 11 nq28 = true := by kernel_rfl
theorem nq29_ok : chkF (run E2 100000).call 16 nq29 = true := by kernel_rfl
theorem nq30_ok : chkF (run E2 100000).call 16 nq30 = true := by kernel_rfl
theorem nq31_ok : chkF (run E2 100000).call 15 nq31 = true := by kernel_rfl
theorem nq32_ok : chkF (run E2 100000).call 15 nq32 = true := by kernel_rfl
theorem nq33_ok : chkF (run E2 100000).call 14 nq33 = true := by kernel_rfl
theorem nq34_ok : chkF (run E2 100000).call 14 nq34 = true := by kernel_rfl
theorem nq35_ok : chkF (run E2 100000).call 14 nq35 = true := by kernel_rfl
theorem nq36_ok : chkF (run E2 100000).call 15 nq36 = true := by kernel_rfl
theorem nq37_ok : chkF (run E2 100000).call 15 nq37 = true := by kernel_rfl
theorem nq38_ok : chkF (run E2 100000).call 11 nq38 = true := by kernel_rfl
theorem nq39_ok : chkF (run E2 100000).call 11 nq39 = true := by kernel_rfl
theorem nq40_ok : chkF (run E2 100000).call 11 nq40 = true := by kernel_rfl
theorem nq41_ok : chkF (run E2 100000).call 16 nq41 = true := by kernel_rfl
theorem nq42_ok : chkF (run E2 100000).call 16 nq42 = true := by kernel_rfl
theorem nq43_ok : chkF (run E2 100000).call 15 nq43 = true := by kernel_rfl
theorem nq44_ok : chkF (run E2 100000).call 15 nq44 = true := by kernel_rfl
end Go.Abs.Tryz
