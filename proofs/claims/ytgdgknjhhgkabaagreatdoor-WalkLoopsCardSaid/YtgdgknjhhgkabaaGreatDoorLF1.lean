/- By gen_law.py: facts, told by runs in the kernel. -/
import Derived.Test.YtgdgknjhhgkabaaGreatDoorLObj
set_option linter.unusedVariables false
set_option linter.unusedSimpArgs false
set_option linter.unusedVariables false
set_option maxRecDepth 1000000
namespace Go.Abs.Tryz
open Go.Abs Go.Proofs
theorem lq81_ok : chkF (run E2 100000).call 94 lq81 = true := by kernel_rfl
theorem lq82_ok : chkF (run E2 100000).call 16 lq82 = true := by kernel_rfl
theorem lq83_ok : chkF (run E2 100000).call 82 lq83 = true := by kernel_rfl
theorem lq84_ok : chkF (run E2 100000).call 94 lq84 = true := by kernel_rfl
theorem lq85_ok : chkF (run E2 100000).call 16 lq85 = true := by kernel_rfl
theorem lq86_ok : chkF (run E2 100000).call 82 lq86 = true := by kernel_rfl
theorem lq87_ok : chkF (run E2 100000).call 94 lq87 = true := by kernel_rfl
theorem lq88_ok : chkF (run E2 100000).call 16 lq88 = true := by kernel_rfl
theorem lq89_ok : chkF (run E2 100000).call 10 lq89 = true := by kernel_rfl
theorem lq90_ok : chkF (run E2 100000).call 10 lq90 = true := by kernel_rfl
theorem lq91_ok : chkF (run E2 100000).call 16 lq91 = true := by kernel_rfl
theorem lq92_ok : chkF (run E2 100000).call 94 lq92 = true := by kernel_rfl
theorem lq93_ok : chkF (run E2 100000).call 16 lq93 = true := by kernel_rfl
theorem lq94_ok : chkF (run E2 100000).call 82 lq94 = true := by kernel_rfl
theorem lq95_ok : chkF (run E2 100000).call 82 lq95 = true := by kernel_rfl
theorem lq96_ok : chkF (run E2 100000).call 82 lq96 = true := by kernel_rfl
theorem lq97_ok : chkF (run E2 100000).call 82 lq97 = true := by kernel_rfl
theorem lq98_ok : chkF (run E2 100000).call 82 lq98 = true := by kernel_rfl
theorem lq99_ok : chkF (run E2 100000).call 82 lq99 = true := by kernel_rfl
theorem lq100_ok : chkF (run E2 100000).call 82 lq100 = true := by kernel_rfl
theorem lq101_ok : chkF (run E2 100000).call 82 lq101 = true := by kernel_rfl
theorem lq102_ok : chkF (run E2 100000).call 10 lq102 = true := by kernel_rfl
theorem lq103_ok : chkF (run E2 100000).call 10 lq103 = true := by kernel_rfl
theorem lq104_ok : chkF (run E2 100000).call 16 lq104 = true := by kernel_rfl
theorem lq105_ok : chkF (run E2 100000).call 94 lq105 = true := by kernel_rfl
theorem lq106_ok : chkF (run E2 100000).call 16 lq106 = true := by kernel_rfl
theorem lq107_ok : chkF (run E2 100000).call 82 lq107 = true := by kernel_rfl
theorem lq108_ok : chkF (run E2 100000).call 94 lq108 = true := by kernel_rfl
theorem lq109_ok : chkF (run E2 100000).call 16 lq109 = true := by kernel_rfl
theorem lq110_ok : chkF (run E2 100000).call 82 lq110 = true := by kernel_rfl
theorem lq111_ok : chkF (run E2 100000).call 94 lq111 = true := by kernel_rfl
theorem lq112_ok : chkF (run E2 100000).call 16 lq112 = true := by kernel_rfl
theorem lq113_ok : chkF (run E2 100000).call 82 lq113 = true := by kernel_rfl
theorem lq114_ok : chkF (run E2 100000).call 94 lq114 = true := by kernel_rfl
theorem lq115_ok : chkF (run E2 100000).call 16 lq115 = true := by kernel_rfl
theorem lq116_ok : chkF (run E2 100000).call 82 lq116 = true := by kernel_rfl
theorem lq117_ok : chkF (run E2 100000).call 94 lq117 = true := by kernel_rfl
theorem lq118_ok : chkF (run E2 100000).call 16 lq118 = true := by kernel_rfl
theorem lq119_ok : chkF (run E2 100000).call 10 lq119 = true := by kernel_rfl
theorem lq120_ok : chkF (run E2 100000).call 10 lq120 = true := by kernel_rfl
theorem lq121_ok : chkF (run E2 100000).call 16 lq121 = true := by kernel_rfl
theorem lq122_ok : chkF (run E2 100000).call 94 lq122 = true := by kernel_rfl
theorem lq123_ok : chkF (run E2 100000).call 16 lq123 = true := by kernel_rfl
theorem lq124_ok : chkF (run E2 100000).call 82 lq124 = true := by kernel_rfl
theorem lq125_ok : chkF (run E2 100000).call 82 lq125 = true := by kernel_rfl
theorem lq126_ok : chkF (run E2 100000).call 82 lq126 = true := by kernel_rfl
theorem lq127_ok : chkF (run E2 100000).call 82 lq127 = true := by kernel_rfl
theorem lq128_ok : chkF (run E2 100000).call 82 lq128 = true := by kernel_rfl
theorem lq129_ok : chkF (run E2 100000).call 82 lq129 = true := by kernel_rfl
theorem lq130_ok : chkF (run E2 100000).call 82 lq130 = true := by kernel_rfl
theorem lq131_ok : chkF (run E2 100000).call 82 lq131 = true := by kernel_rfl
theorem lq132_ok : chkF (run E2 100000).call 10 lq132 = true := by kernel_rfl
theorem lq133_ok : chkF (run E2 100000).call 10 lq133 = true := by kernel_rfl
theorem lq134_ok : chkF (run E2 100000).call 16 lq134 = true := by kernel_rfl
theorem lq135_ok : chkF (run E2 100000).call 94 lq135 = true := by kernel_rfl
theorem lq136_ok : chkF (run E2 100000).call 16 lq136 = true := by kernel_rfl
theorem lq137_ok : chkF (run E2 100000).call 82 lq137 = true := by kernel_rfl
theorem lq138_ok : chkF (run E2 100000).call 94 lq138 = true := by kernel_rfl
theorem lq139_ok : chkF (run E2 100000).call 16 lq139 = true := by kernel_rfl
theorem lq140_ok : chkF (run E2 100000).call 82 lq140 = true := by kernel_rfl
theorem lq141_ok : chkF (run E2 100000).call 94 lq141 = true := by kernel_rfl
theorem lq142_ok : chkF (run E2 100000).call 16 lq142 = true := by kernel_rfl
theorem lq143_ok : chkF (run E2 100000).call 82 lq143 = true := by kernel_rfl
theorem lq144_ok : chkF (run E2 100000).call 94 lq144 = true := by kernel_rfl
theorem lq145_ok : chkF (run E2 100000).call 16 lq145 = true := by kernel_rfl
theorem lq146_ok : chkF (run E2 100000).call 82 lq146 = true := by kernel_rfl
theorem lq147_ok : chkF (run E2 100000).call 94 lq147 = true := by kernel_rfl
theorem lq148_ok : chkF (run E2 100000).call 16 lq148 = true := by kernel_rfl
theorem lq149_ok : chkF (run E2 100000).call 82 lq149 = true := by kernel_rfl
theorem lq150_ok : chkF (run E2 100000).call 94 lq150 = true := by kernel_rfl
theorem lq151_ok : chkF (run E2 100000).call 16 lq151 = true := by kernel_rfl
end Go.Abs.Tryz
