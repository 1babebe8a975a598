/- By gen_fact.py: facts, told by runs in the kernel. -/
import Derived.Test.YtgdgknjhhgkabaaGreatDoorUObj
set_option linter.unusedVariables false
set_option linter.unusedSimpArgs false
set_option linter.unusedVariables false
set_option maxRecDepth 1000000
namespace Go.Abs.Tryz
open Go.Abs Go.Proofs
theorem q20_ok : chkF (run E2 100000).call 94 q20 = true := by kernel_rfl
theorem q21_ok : chkF (run E2 100000).call 16 q21 = true := by kernel_rfl
theorem q22_ok : chkF (run E2 100000).call 94 q22 = true := by kernel_rfl
theorem q23_ok : chkF (run E2 100000).call 94 q23 = true := by kernel_rfl
theorem q24_ok : chkF (run E2 100000).call 94 q24 = true := by kernel_rfl
theorem q25_ok : chkF (run E2 100000).call 16 q25 = true := by kernel_rfl
theorem q26_ok : chkF (run E2 100000).call 94 q26 = true := by kernel_rfl
theorem q27_ok : chkF (run E2 100000).call 16 q27 = true := by kernel_rfl
theorem q28_ok : chkF (run E2 100000).call 94 q28 = true := by kernel_rfl
theorem q29_ok : chkF (run E2 100000).call 10 q29 = true := by kernel_rfl
theorem q30_ok : chkF (run E2 100000).call 10 q30 = true := by kernel_rfl
theorem q31_ok : chkF (run E2 100000).call 16 q31 = true := by kernel_rfl
theorem q32_ok : chkF (run E2 100000).call 94 q32 = true := by kernel_rfl
theorem q33_ok : chkF (run E2 100000).call 16 q33 = true := by kernel_rfl
theorem q34_ok : chkF (run E2 100000).call 94 q34 = true := by kernel_rfl
theorem q35_ok : chkF (run E2 100000).call 94 q35 = true := by kernel_rfl
theorem q36_ok : chkF (run E2 100000).call 94 q36 = true := by kernel_rfl
theorem q37_ok : chkF (run E2 100000).call 16 q37 = true := by kernel_rfl
theorem q38_ok : chkF (run E2 100000).call 94 q38 = true := by kernel_rfl
theorem q39_ok : chkF (run E2 100000).call 16 q39 = true := by kernel_rfl
theorem q40_ok : chkF (run E2 100000).call 94 q40 = true := by kernel_rfl
theorem q41_ok : chkF (run E2 100000).call 16 q41 = true := by kernel_rfl
theorem q42_ok : chkF (run E2 100000).call 94 q42 = true := by kernel_rfl
theorem q43_ok : chkF (run E2 100000).call 10 q43 = true := by kernel_rfl
end Go.Abs.Tryz
