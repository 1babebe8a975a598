/- By gen_fact.py: the cases, told by runs in the kernel. -/
import Derived.Test.YtgdgknjhhgkabaaGreatDoorUCase
set_option linter.unusedVariables false
set_option linter.unusedSimpArgs false
set_option linter.unusedVariables false
set_option maxRecDepth 1000000
namespace Go.Abs.Tryz
open Go.Abs Go.Proofs
theorem run_0_0 : chk 0 0 = true := by kernel_rfl
theorem run_0_1 : chk 0 1 = true := by kernel_rfl
theorem run_0_2 : chk 0 2 = true := by kernel_rfl
theorem run_0_3 : chk 0 3 = true := by kernel_rfl
theorem run_0_4 : chk 0 4 = true := by kernel_rfl
theorem run_0_5 : chk 0 5 = true := by kernel_rfl
theorem run_0_6 : chk 0 6 = true := by kernel_rfl
theorem run_0_7 : chk 0 7 = true := by kernel_rfl
theorem run_0_8 : chk 0 8 = true := by kernel_rfl
theorem run_0_9 : chk 0 9 = true := by kernel_rfl
theorem run_1_0 : chk 1 0 = true := by kernel_rfl
theorem run_1_1 : chk 1 1 = true := by kernel_rfl
theorem run_1_2 : chk 1 2 = true := by kernel_rfl
theorem run_1_3 : chk 1 3 = true := by kernel_rfl
theorem run_1_4 : chk 1 4 = true := by kernel_rfl
theorem run_1_5 : chk 1 5 = true := by kernel_rfl
theorem run_1_6 : chk 1 6 = true := by kernel_rfl
theorem run_1_7 : chk 1 7 = true := by kernel_rfl
theorem run_1_8 : chk 1 8 = true := by kernel_rfl
theorem run_1_9 : chk 1 9 = true := by kernel_rfl
theorem run_2_0 : chk 2 0 = true := by kernel_rfl
theorem run_2_1 : chk 2 1 = true := by kernel_rfl
theorem run_2_2 : chk 2 2 = true := by kernel_rfl
theorem run_2_3 : chk 2 3 = true := by kernel_rfl
theorem run_2_4 : chk 2 4 = true := by kernel_rfl
theorem run_2_5 : chk 2 5 = true := by kernel_rfl
theorem run_2_6 : chk 2 6 = true := by kernel_rfl
theorem run_2_7 : chk 2 7 = true := by kernel_rfl
theorem run_2_8 : chk 2 8 = true := by kernel_rfl
theorem run_2_9 : chk 2 9 = true := by kernel_rfl
theorem run_3_0 : chk 3 0 = true := by kernel_rfl
theorem run_3_1 : chk 3 1 = true := by kernel_rfl
theorem run_3_2 : chk 3 2 = true := by kernel_rfl
theorem run_3_3 : chk 3 3 = true := by kernel_rfl
theorem run_3_4 : chk 3 4 = true := by kernel_rfl
theorem run_3_5 : chk 3 5 = true := by kernel_rfl
theorem run_3_6 : chk 3 6 = true := by kernel_rfl
theorem run_3_7 : chk 3 7 = true := by kernel_rfl
theorem run_3_8 : chk 3 8 = true := by kernel_rfl
theorem run_3_9 : chk 3 9 = true := by kernel_rfl
theorem run_4_0 : chk 4 0 = true := by kernel_rfl
theorem run_4_1 : chk 4 1 = true := by kernel_rfl
theorem run_4_2 : chk 4 2 = true := by kernel_rfl
theorem run_4_3 : chk 4 3 = true := by kernel_rfl
theorem run_4_4 : chk 4 4 = true := by kernel_rfl
theorem run_4_5 : chk 4 5 = true := by kernel_rfl
theorem run_4_6 : chk 4 6 = true := by kernel_rfl
theorem run_4_7 : chk 4 7 = true := by kernel_rfl
theorem run_4_8 : chk 4 8 = true := by kernel_rfl
theorem run_4_9 : chk 4 9 = true := by kernel_rfl
theorem run_5_0 : chk 5 0 = true := by kernel_rfl
theorem run_5_1 : chk 5 1 = true := by kernel_rfl
theorem run_5_2 : chk 5 2 = true := by kernel_rfl
theorem run_5_3 : chk 5 3 = true := by kernel_rfl
theorem run_5_4 : chk 5 4 = true := by kernel_rfl
theorem run_5_5 : chk 5 5 = true := by kernel_rfl
theorem run_5_6 : chk 5 6 = true := by kernel_rfl
theorem run_5_7 : chk 5 7 = true := by kernel_rfl
theorem run_5_8 : chk 5 8 = true := by kernel_rfl
theorem run_5_9 : chk 5 9 = true := by kernel_rfl
theorem run_6_0 : chk 6 0 = true := by kernel_rfl
theorem run_6_1 : chk 6 1 = true := by kernel_rfl
theorem run_6_2 : chk 6 2 = true := by kernel_rfl
theorem run_6_3 : chk 6 3 = true := by kernel_rfl
theorem run_6_4 : chk 6 4 = true := by kernel_rfl
theorem run_6_5 : chk 6 5 = true := by kernel_rfl
theorem run_6_6 : chk 6 6 = true := by kernel_rfl
theorem run_6_7 : chk 6 7 = true := by kernel_rfl
theorem run_6_8 : chk 6 8 = true := by kernel_rfl
theorem run_6_9 : chk 6 9 = true := by kernel_rfl
end Go.Abs.Tryz
