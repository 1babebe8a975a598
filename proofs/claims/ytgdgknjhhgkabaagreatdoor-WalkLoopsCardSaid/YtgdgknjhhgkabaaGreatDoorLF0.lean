/- By gen_law.py: facts, told by runs in the kernel. -/
import Derived.Test.YtgdgknjhhgkabaaGreatDoorLObj
set_option linter.unusedVariables false
set_option linter.unusedSimpArgs false
set_option linter.unusedVariables false
set_option maxRecDepth 1000000
namespace Go.Abs.Tryz
open Go.Abs Go.Proofs
theorem lq0_ok : chkF (run E2 100000).call 10 lq0 = true := by kernel_rfl
theorem lq1_ok : chkF (run E2 100000).call 16 lq1 = true := by kernel_rfl
theorem lq2_ok : chkF (run E2 100000).call 94 lq2 = true := by kernel_rfl
theorem lq3_ok : chkF (run E2 100000).call 16 lq3 = true := by kernel_rfl
theorem lq4_ok : chkF (run E2 100000).call 82 lq4 = true := by kernel_rfl
theorem lq5_ok : chkF (run E2 100000).call 82 lq5 = true := by kernel_rfl
theorem lq6_ok : chkF (run E2 100000).call 82 lq6 = true := by kernel_rfl
theorem lq7_ok : chkF (run E2 100000).call 82 lq7 = true := by kernel_rfl
theorem lq8_ok : chkF (run E2 100000).call 82 lq8 = true := by kernel_rfl
theorem lq9_ok : chkF (run E2 100000).call 82 lq9 = true := by kernel_rfl
theorem lq10_ok : chkF (run E2 100000).call 82 lq10 = true := by kernel_rfl
theorem lq11_ok : chkF (run E2 100000).call 82 lq11 = true := by kernel_rfl
theorem lq12_ok : chkF (run E2 100000).call 10 lq12 = true := by kernel_rfl
theorem lq13_ok : chkF (run E2 100000).call 10 lq13 = true := by kernel_rfl
theorem lq14_ok : chkF (run E2 100000).call 16 lq14 = true := by kernel_rfl
theorem lq15_ok : chkF (run E2 100000).call 94 lq15 = true := by kernel_rfl
theorem lq16_ok : chkF (run E2 100000).call 16 lq16 = true := by kernel_rfl
theorem lq17_ok : chkF (run E2 100000).call 10 lq17 = true := by kernel_rfl
theorem lq18_ok : chkF (run E2 100000).call 10 lq18 = true := by kernel_rfl
theorem lq19_ok : chkF (run E2 100000).call 16 lq19 = true := by kernel_rfl
theorem lq20_ok : chkF (run E2 100000).call 94 lq20 = true := by kernel_rfl
theorem lq21_ok : chkF (run E2 100000).call 16 lq21 = true := by kernel_rfl
theorem lq22_ok : chkF (run E2 100000).call 82 lq22 = true := by kernel_rfl
theorem lq23_ok : chkF (run E2 100000).call 82 lq23 = true := by kernel_rfl
theorem lq24_ok : chkF (run E2 100000).call 82 lq24 = true := by kernel_rfl
theorem lq25_ok : chkF (run E2 100000).call 82 lq25 = true := by kernel_rfl
theorem lq26_ok : chkF (run E2 100000).call 82 lq26 = true := by kernel_rfl
theorem lq27_ok : chkF (run E2 100000).call 82 lq27 = true := by kernel_rfl
theorem lq28_ok : chkF (run E2 100000).call 82 lq28 = true := by kernel_rfl
theorem lq29_ok : chkF (run E2 100000).call 82 lq29 = true := by kernel_rfl
theorem lq30_ok : chkF (run E2 100000).call 10 lq30 = true := by kernel_rfl
theorem lq31_ok : chkF (run E2 100000).call 10 lq31 = true := by kernel_rfl
theorem lq32_ok : chkF (run E2 100000).call 16 lq32 = true := by kernel_rfl
theorem lq33_ok : chkF (run E2 100000).call 94 lq33 = true := by kernel_rfl
theorem lq34_ok : chkF (run E2 100000).call 16 lq34 = true := by kernel_rfl
theorem lq35_ok : chkF (run E2 100000).call 82 lq35 = true := by kernel_rfl
theorem lq36_ok : chkF (run E2 100000).call 94 lq36 = true := by kernel_rfl
theorem lq37_ok : chkF (run E2 100000).call 16 lq37 = true := by kernel_rfl
theorem lq38_ok : chkF (run E2 100000).call 10 lq38 = true := by kernel_rfl
theorem lq39_ok : chkF (run E2 100000).call 10 lq39 = true := by kernel_rfl
theorem lq40_ok : chkF (run E2 100000).call 16 lq40 = true := by kernel_rfl
theorem lq41_ok : chkF (run E2 100000).call 94 lq41 = true := by kernel_rfl
theorem lq42_ok : chkF (run E2 100000).call 16 lq42 = true := by kernel_rfl
theorem lq43_ok : chkF (run E2 100000).call 82 lq43 = true := by kernel_rfl
theorem lq44_ok : chkF (run E2 100000).call 82 lq44 = true := by kernel_rfl
theorem lq45_ok : chkF (run E2 100000).call 82 lq45 = true := by kernel_rfl
theorem lq46_ok : chkF (run E2 100000).call 82 lq46 = true := by kernel_rfl
theorem lq47_ok : chkF (run E2 100000).call 82 lq47 = true := by kernel_rfl
theorem lq48_ok : chkF (run E2 100000).call 82 lq48 = true := by kernel_rfl
theorem lq49_ok : chkF (run E2 100000).call 82 lq49 = true := by kernel_rfl
theorem lq50_ok : chkF (run E2 100000).call 82 lq50 = true := by kernel_rfl
theorem lq51_ok : chkF (run E2 100000).call 10 lq51 = true := by kernel_rfl
theorem lq52_ok : chkF (run E2 100000).call 10 lq52 = true := by kernel_rfl
theorem lq53_ok : chkF (run E2 100000).call 16 lq53 = true := by kernel_rfl
theorem lq54_ok : chkF (run E2 100000).call 94 lq54 = true := by kernel_rfl
theorem lq55_ok : chkF (run E2 100000).call 16 lq55 = true := by kernel_rfl
theorem lq56_ok : chkF (run E2 100000).call 82 lq56 = true := by kernel_rfl
theorem lq57_ok : chkF (run E2 100000).call 94 lq57 = true := by kernel_rfl
theorem lq58_ok : chkF (run E2 100000).call 16 lq58 = true := by kernel_rfl
theorem lq59_ok : chkF (run E2 100000).call 82 lq59 = true := by kernel_rfl
theorem lq60_ok : chkF (run E2 100000).call 94 lq60 = true := by kernel_rfl
theorem lq61_ok : chkF (run E2 100000).call 16 lq61 = true := by kernel_rfl
theorem lq62_ok : chkF (run E2 100000).call 10 lq62 = true := by kernel_rfl
theorem lq63_ok : chkF (run E2 100000).call 10 lq63 = true := by kernel_rfl
theorem lq64_ok : chkF (run E2 100000).call 16 lq64 = true := by kernel_rfl
theorem lq65_ok : chkF (run E2 100000).call 94 lq65 = true := by kernel_rfl
theorem lq66_ok : chkF (run E2 100000).call 16 lq66 = true := by kernel_rfl
theorem lq67_ok : chkF (run E2 100000).call 82 lq67 = true := by kernel_rfl
theorem lq68_ok : chkF (run E2 100000).call 82 lq68 = true := by kernel_rfl
theorem lq69_ok : chkF (run E2 100000).call 82 lq69 = true := by kernel_rfl
theorem lq70_ok : chkF (run E2 100000).call 82 lq70 = true := by kernel_rfl
theorem lq71_ok : chkF (run E2 100000).call 82 lq71 = true := by kernel_rfl
theorem lq72_ok : chkF (run E2 100000).call 82 lq72 = true := by kernel_rfl
theorem lq73_ok : chkF (run E2 100000).call 82 lq73 = true := by kernel_rfl
theorem lq74_ok : chkF (run E2 100000).call 82 lq74 = true := by kernel_rfl
theorem lq75_ok : chkF (run E2 100000).call 10 lq75 = true := by kernel_rfl
theorem lq76_ok : chkF (run E2 100000).call 10 lq76 = true := by kernel_rfl
theorem lq77_ok : chkF (run E2 100000).call 16 lq77 = true := by kernel_rfl
theorem lq78_ok : chkF (run E2 100000).call 94 lq78 = true := by kernel_rfl
theorem lq79_ok : chkF (run E2 100000).call 16 lq79 = true := by kernel_rfl
theorem lq80_ok : chkF (run E2 100000).call 82 lq80 = true := by kernel_rfl
end Go.Abs.Tryz
