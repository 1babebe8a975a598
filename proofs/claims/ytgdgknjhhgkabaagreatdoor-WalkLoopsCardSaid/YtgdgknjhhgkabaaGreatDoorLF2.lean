/- By gen_law.py: facts, told by runs in the kernel. -/
import Derived.Test.YtgdgknjhhgkabaaGreatDoorLObj
set_option linter.unusedVariables false
set_option linter.unusedSimpArgs false
set_option linter.unusedVariables false
set_option maxRecDepth 1000000
namespace Go.Abs.Tryz
open Go.Abs Go.Proofs
theorem lq152_ok : chkF (run E2 100000).call 10 lq152 = true := by kernel_rfl
theorem lq153_ok : chkF (run E2 100000).call 10 lq153 = true := by kernel_rfl
theorem lq154_ok : chkF (run E2 100000).call 16 lq154 = true := by kernel_rfl
theorem lq155_ok : chkF (run E2 100000).call 94 lq155 = true := by kernel_rfl
theorem lq156_ok : chkF (run E2 100000).call 16 lq156 = true := by kernel_rfl
theorem lq157_ok : chkF (run E2 100000).call 82 lq157 = true := by kernel_rfl
theorem lq158_ok : chkF (run E2 100000).call 82 lq158 = true := by kernel_rfl
theorem lq159_ok : chkF (run E2 100000).call 82 lq159 = true := by kernel_rfl
theorem lq160_ok : chkF (run E2 100000).call 82 lq160 = true := by kernel_rfl
theorem lq161_ok : chkF (run E2 100000).call 82 lq161 = true := by kernel_rfl
theorem lq162_ok : chkF (run E2 100000).call 82 lq162 = true := by kernel_rfl
theorem lq163_ok : chkF (run E2 100000).call 82 lq163 = true := by kernel_rfl
theorem lq164_ok : chkF (run E2 100000).call 82 lq164 = true := by kernel_rfl
theorem lq165_ok : chkF (run E2 100000).call 10 lq165 = true := by kernel_rfl
theorem lq166_ok : chkF (run E2 100000).call 10 lq166 = true := by kernel_rfl
theorem lq167_ok : chkF (run E2 100000).call 16 lq167 = true := by kernel_rfl
theorem lq168_ok : chkF (run E2 100000).call 94 lq168 = true := by kernel_rfl
theorem lq169_ok : chkF (run E2 100000).call 16 lq169 = true := by kernel_rfl
theorem lq170_ok : chkF (run E2 100000).call 82 lq170 = true := by kernel_rfl
theorem lq171_ok : chkF (run E2 100000).call 94 lq171 = true := by kernel_rfl
theorem lq172_ok : chkF (run E2 100000).call 16 lq172 = true := by kernel_rfl
theorem lq173_ok : chkF (run E2 100000).call 82 lq173 = true := by kernel_rfl
theorem lq174_ok : chkF (run E2 100000).call 94 lq174 = true := by kernel_rfl
theorem lq175_ok : chkF (run E2 100000).call 16 lq175 = true := by kernel_rfl
theorem lq176_ok : chkF (run E2 100000).call 82 lq176 = true := by kernel_rfl
theorem lq177_ok : chkF (run E2 100000).call 94 lq177 = true := by kernel_rfl
theorem lq178_ok : chkF (run E2 100000).call 16 lq178 = true := by kernel_rfl
theorem lq179_ok : chkF (run E2 100000).call 82 lq179 = true := by kernel_rfl
theorem lq180_ok : chkF (run E2 100000).call 94 lq180 = true := by kernel_rfl
theorem lq181_ok : chkF (run E2 100000).call 16 lq181 = true := by kernel_rfl
theorem lq182_ok : chkF (run E2 100000).call 82 lq182 = true := by kernel_rfl
theorem lq183_ok : chkF (run E2 100000).call 94 lq183 = true := by kernel_rfl
theorem lq184_ok : chkF (run E2 100000).call 16 lq184 = true := by kernel_rfl
theorem lq185_ok : chkF (run E2 100000).call 82 lq185 = true := by kernel_rfl
theorem lq186_ok : chkF (run E2 100000).call 94 lq186 = true := by kernel_rfl
theorem lq187_ok : chkF (run E2 100000).call 16 lq187 = true := by kernel_rfl
theorem lq188_ok : chkF (run E2 100000).call 10 lq188 = true := by kernel_rfl
theorem lq189_ok : chkF (run E2 100000).call 10 lq189 = true := by kernel_rfl
theorem lq190_ok : chkF (run E2 100000).call 16 lq190 = true := by kernel_rfl
theorem lq191_ok : chkF (run E2 100000).call 94 lq191 = true := by kernel_rfl
theorem lq192_ok : chkF (run E2 100000).call 16 lq192 = true := by kernel_rfl
theorem lq193_ok : chkF (run E2 100000).call 82 lq193 = true := by kernel_rfl
theorem lq194_ok : chkF (run E2 100000).call 82 lq194 = true := by kernel_rfl
theorem lq195_ok : chkF (run E2 100000).call 82 lq195 = true := by kernel_rfl
theorem lq196_ok : chkF (run E2 100000).call 82 lq196 = true := by kernel_rfl
theorem lq197_ok : chkF (run E2 100000).call 82 lq197 = true := by kernel_rfl
theorem lq198_ok : chkF (run E2 100000).call 82 lq198 = true := by kernel_rfl
theorem lq199_ok : chkF (run E2 100000).call 82 lq199 = true := by kernel_rfl
theorem lq200_ok : chkF (run E2 100000).call 82 lq200 = true := by kernel_rfl
theorem lq201_ok : chkF (run E2 100000).call 10 lq201 = true := by kernel_rfl
theorem lq202_ok : chkF (run E2 100000).call 10 lq202 = true := by kernel_rfl
theorem lq203_ok : chkF (run E2 100000).call 16 lq203 = true := by kernel_rfl
theorem lq204_ok : chkF (run E2 100000).call 94 lq204 = true := by kernel_rfl
theorem lq205_ok : chkF (run E2 100000).call 16 lq205 = true := by kernel_rfl
theorem lq206_ok : chkF (run E2 100000).call 82 lq206 = true := by kernel_rfl
theorem lq207_ok : chkF (run E2 100000).call 94 lq207 = true := by kernel_rfl
theorem lq208_ok : chkF (run E2 100000).call 16 lq208 = true := by kernel_rfl
theorem lq209_ok : chkF (run E2 100000).call 82 lq209 = true := by kernel_rfl
end Go.Abs.Tryz
