/- By gen_law.py: facts, told by runs in the kernel. -/
import Derived.Test.YtgdgknjhhgkabaaGreatDoorLObj
set_option linter.unusedVariables false
set_option linter.unusedSimpArgs false
set_option linter.unusedVariables false
set_option maxRecDepth 1000000
namespace Go.Abs.Tryz
open Go.Abs Go.Proofs
theorem lq210_ok : chkF (run E2 100000).call 94 lq210 = true := by kernel_rfl
theorem lq211_ok : chkF (run E2 100000).call 16 lq211 = true := by kernel_rfl
theorem lq212_ok : chkF (run E2 100000).call 82 lq212 = true := by kernel_rfl
theorem lq213_ok : chkF (run E2 100000).call 94 lq213 = true := by kernel_rfl
theorem lq214_ok : chkF (run E2 100000).call 16 lq214 = true := by kernel_rfl
theorem lq215_ok : chkF (run E2 100000).call 82 lq215 = true := by kernel_rfl
theorem lq216_ok : chkF (run E2 100000).call 94 lq216 = true := by kernel_rfl
theorem lq217_ok : chkF (run E2 100000).call 16 lq217 = true := by kernel_rfl
theorem lq218_ok : chkF (run E2 100000).call 82 lq218 = true := by kernel_rfl
theorem lq219_ok : chkF (run E2 100000).call 94 lq219 = true := by kernel_rfl
theorem lq220_ok : chkF (run E2 100000).call 16 lq220 = true := by kernel_rfl
theorem lq221_ok : chkF (run E2 100000).call 82 lq221 = true := by kernel_rfl
theorem lq222_ok : chkF (run E2 100000).call 94 lq222 = true := by kernel_rfl
theorem lq223_ok : chkF (run E2 100000).call 16 lq223 = true := by kernel_rfl
theorem lq224_ok : chkF (run E2 100000).call 82 lq224 = true := by kernel_rfl
theorem lq225_ok : chkF (run E2 100000).call 94 lq225 = true := by kernel_rfl
theorem lq226_ok : chkF (run E2 100000).call 16 lq226 = true := by kernel_rfl
theorem lq227_ok : chkF (run E2 100000).call 10 lq227 = true := by kernel_rfl
theorem lq228_ok : chkF (run E2 100000).call 10 lq228 = true := by kernel_rfl
theorem lq229_ok : chkF (run E2 100000).call 16 lq229 = true := by kernel_rfl
theorem lq230_ok : chkF (run E2 100000).call 94 lq230 = true := by kernel_rfl
theorem lq231_ok : chkF (run E2 100000).call 16 lq231 = true := by kernel_rfl
theorem lq232_ok : chkF (run E2 100000).call 82 lq232 = true := by kernel_rfl
theorem lq233_ok : chkF (run E2 100000).call 82 lq233 = true := by kernel_rfl
theorem lq234_ok : chkF (run E2 100000).call 82 lq234 = true := by kernel_rfl
theorem lq235_ok : chkF (run E2 100000).call 82 lq235 = true := by kernel_rfl
theorem lq236_ok : chkF (run E2 100000).call 82 lq236 = true := by kernel_rfl
theorem lq237_ok : chkF (run E2 100000).call 82 lq237 = true := by kernel_rfl
theorem lq238_ok : chkF (run E2 100000).call 82 lq238 = true := by kernel_rfl
theorem lq239_ok : chkF (run E2 100000).call 82 lq239 = true := by kernel_rfl
theorem lq240_ok : chkF (run E2 100000).call 10 lq240 = true := by kernel_rfl
theorem lq241_ok : chkF (run E2 100000).call 10 lq241 = true := by kernel_rfl
theorem lq242_ok : chkF (run E2 100000).call 16 lq242 = true := by kernel_rfl
theorem lq243_ok : chkF (run E2 100000).call 94 lq243 = true := by kernel_rfl
theorem lq244_ok : chkF (run E2 100000).call 16 lq244 = true := by kernel_rfl
theorem lq245_ok : chkF (run E2 100000).call 82 lq245 = true := by kernel_rfl
theorem lq246_ok : chkF (run E2 100000).call 94 lq246 = true := by kernel_rfl
theorem lq247_ok : chkF (run E2 100000).call 16 lq247 = true := by kernel_rfl
theorem lq248_ok : chkF (run E2 100000).call 82 lq248 = true := by kernel_rfl
theorem lq249_ok : chkF (run E2 100000).call 94 lq249 = true := by kernel_rfl
theorem lq250_ok : chkF (run E2 100000).call 16 lq250 = true := by kernel_rfl
theorem lq251_ok : chkF (run E2 100000).call 82 lq251 = true := by kernel_rfl
theorem lq252_ok : chkF (run E2 100000).call 94 lq252 = true := by kernel_rfl
theorem lq253_ok : chkF (run E2 100000).call 16 lq253 = true := by kernel_rfl
theorem lq254_ok : chkF (run E2 100000).call 82 lq254 = true := by kernel_rfl
theorem lq255_ok : chkF (run E2 100000).call 94 lq255 = true := by kernel_rfl
theorem lq256_ok : chkF (run E2 100000).call 16 lq256 = true := by kernel_rfl
theorem lq257_ok : chkF (run E2 100000).call 82 lq257 = true := by kernel_rfl
theorem lq258_ok : chkF (run E2 100000).call 94 lq258 = true := by kernel_rfl
theorem lq259_ok : chkF (run E2 100000).call 16 lq259 = true := by kernel_rfl
theorem lq260_ok : chkF (run E2 100000).call 82 lq260 = true := by kernel_rfl
theorem lq261_ok : chkF (run E2 100000).call 94 lq261 = true := by kernel_rfl
theorem lq262_ok : chkF (run E2 100000).call 16 lq262 = true := by kernel_rfl
theorem lq263_ok : chkF (run E2 100000).call 82 lq263 = true := by kernel_rfl
theorem lq264_ok : chkF (run E2 100000).call 94 lq264 = true := by kernel_rfl
theorem lq265_ok : chkF (run E2 100000).call 16 lq265 = true := by kernel_rfl
theorem lq266_ok : chkF (run E2 100000).call 82 lq266 = true := by kernel_rfl
theorem lq267_ok : chkF (run E2 100000).call 94 lq267 = true := by kernel_rfl
theorem lq268_ok : chkF (run E2 100000).call 16 lq268 = true := by kernel_rfl
end Go.Abs.Tryz
