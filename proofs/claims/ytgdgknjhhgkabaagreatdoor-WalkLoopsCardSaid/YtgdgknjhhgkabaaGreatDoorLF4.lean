/- By gen_law.py: facts, told by runs in the kernel. -/
import Derived.Test.YtgdgknjhhgkabaaGreatDoorLObj
set_option linter.unusedVariables false
set_option linter.unusedSimpArgs false
set_option linter.unusedVariables false
set_option maxRecDepth 1000000
namespace Go.Abs.Tryz
open Go.Abs Go.Proofs
theorem lq269_ok : chkF (run E2 100000).call 10 lq269 = true := by kernel_rfl
theorem lq270_ok : chkF (run E2 100000).call 10 lq270 = true := by kernel_rfl
theorem lq271_ok : chkF (run E2 100000).call 16 lq271 = true := by kernel_rfl
theorem lq272_ok : chkF (run E2 100000).call 94 lq272 = true := by kernel_rfl
theorem lq273_ok : chkF (run E2 100000).call 16 lq273 = true := by kernel_rfl
theorem lq274_ok : chkF (run E2 100000).call 82 lq274 = true := by kernel_rfl
theorem lq275_ok : chkF (run E2 100000).call 82 lq275 = true := by kernel_rfl
theorem lq276_ok : chkF (run E2 100000).call 82 lq276 = true := by kernel_rfl
theorem lq277_ok : chkF (run E2 100000).call 82 lq277 = true := by kernel_rfl
theorem lq278_ok : chkF (run E2 100000).call 82 lq278 = true := by kernel_rfl
theorem lq279_ok : chkF (run E2 100000).call 82 lq279 = true := by kernel_rfl
theorem lq280_ok : chkF (run E2 100000).call 82 lq280 = true := by kernel_rfl
theorem lq281_ok : chkF (run E2 100000).call 82 lq281 = true := by kernel_rfl
theorem lq282_ok : chkF (run E2 100000).call 10 lq282 = true := by kernel_rfl
theorem lq283_ok : chkF (run E2 100000).call 10 lq283 = true := by kernel_rfl
theorem lq284_ok : chkF (run E2 100000).call 16 lq284 = true := by kernel_rfl
theorem lq285_ok : chkF (run E2 100000).call 94 lq285 = true := by kernel_rfl
theorem lq286_ok : chkF (run E2 100000).call 16 lq286 = true := by kernel_rfl
theorem lq287_ok : chkF (run E2 100000).call 82 lq287 = true := by kernel_rfl
theorem lq288_ok : chkF (run E2 100000).call 94 lq288 = true := by kernel_rfl
theorem lq289_ok : chkF (run E2 100000).call 16 lq289 = true := by kernel_rfl
theorem lq290_ok : chkF (run E2 100000).call 82 lq290 = true := by kernel_rfl
theorem lq291_ok : chkF (run E2 100000).call 94 lq291 = true := by kernel_rfl
theorem lq292_ok : chkF (run E2 100000).call 16 lq292 = true := by kernel_rfl
theorem lq293_ok : chkF (run E2 100000).call 82 lq293 = true := by kernel_rfl
theorem lq294_ok : chkF (run E2 100000).call 94 lq294 = true := by kernel_rfl
theorem lq295_ok : chkF (run E2 100000).call 16 lq295 = true := by kernel_rfl
theorem lq296_ok : chkF (run E2 100000).call 82 lq296 = true := by kernel_rfl
theorem lq297_ok : chkF (run E2 100000).call 94 lq297 = true := by kernel_rfl
theorem lq298_ok : chkF (run E2 100000).call 16 lq298 = true := by kernel_rfl
theorem lq299_ok : chkF (run E2 100000).call 82 lq299 = true := by kernel_rfl
theorem lq300_ok : chkF (run E2 100000).call 94 lq300 = true := by kernel_rfl
theorem lq301_ok : chkF (run E2 100000).call 16 lq301 = true := by kernel_rfl
theorem lq302_ok : chkF (run E2 100000).call 82 lq302 = true := by kernel_rfl
theorem lq303_ok : chkF (run E2 100000).call 94 lq303 = true := by kernel_rfl
theorem lq304_ok : chkF (run E2 100000).call 16 lq304 = true := by kernel_rfl
theorem lq305_ok : chkF (run E2 100000).call 82 lq305 = true := by kernel_rfl
theorem lq306_ok : chkF (run E2 100000).call 94 lq306 = true := by kernel_rfl
theorem lq307_ok : chkF (run E2 100000).call 16 lq307 = true := by kernel_rfl
theorem lq308_ok : chkF (run E2 100000).call 82 lq308 = true := by kernel_rfl
theorem lq309_ok : chkF (run E2 100000).call 94 lq309 = true := by kernel_rfl
theorem lq310_ok : chkF (run E2 100000).call 16 lq310 = true := by kernel_rfl
theorem lq311_ok : chkF (run E2 100000).call 10 lq311 = true := by kernel_rfl
theorem lq312_ok : chkF (run E2 100000).call 10 lq312 = true := by kernel_rfl
theorem lq313_ok : chkF (run E2 100000).call 16 lq313 = true := by kernel_rfl
theorem lq314_ok : chkF (run E2 100000).call 94 lq314 = true := by kernel_rfl
theorem lq315_ok : chkF (run E2 100000).call 16 lq315 = true := by kernel_rfl
theorem lq316_ok : chkF (run E2 100000).call 82 lq316 = true := by kernel_rfl
theorem lq317_ok : chkF (run E2 100000).call 82 lq317 = true := by kernel_rfl
end Go.Abs.Tryz
