/- By gen_law.py: facts, told by runs in the kernel. -/
import Derived.Test.YtgdgknjhhgkabaaGreatDoorLObj
set_option linter.unusedVariables false
set_option linter.unusedSimpArgs false
set_option linter.unusedVariables false
set_option maxRecDepth 1000000
namespace Go.Abs.Tryz
open Go.Abs Go.Proofs
theorem lq318_ok : chkF (run E2 100000).call 82 lq318 = true := by kernel_rfl
theorem lq319_ok : chkF (run E2 100000).call 82 lq319 = true := by kernel_rfl
theorem lq320_ok : chkF (run E2 100000).call 82 lq320 = true := by kernel_rfl
theorem lq321_ok : chkF (run E2 100000).call 82 lq321 = true := by kernel_rfl
theorem lq322_ok : chkF (run E2 100000).call 82 lq322 = true := by kernel_rfl
theorem lq323_ok : chkF (run E2 100000).call 82 lq323 = true := by kernel_rfl
theorem lq324_ok : chkF (run E2 100000).call 10 lq324 = true := by kernel_rfl
theorem lq325_ok : chkF (run E2 100000).call 10 lq325 = true := by kernel_rfl
theorem lq326_ok : chkF (run E2 100000).call 16 lq326 = true := by kernel_rfl
theorem lq327_ok : chkF (run E2 100000).call 94 lq327 = true := by kernel_rfl
theorem lq328_ok : chkF (run E2 100000).call 16 lq328 = true := by kernel_rfl
theorem lq329_ok : chkF (run E2 100000).call 82 lq329 = true := by kernel_rfl
theorem lq330_ok : chkF (run E2 100000).call 94 lq330 = true := by kernel_rfl
theorem lq331_ok : chkF (run E2 100000).call 16 lq331 = true := by kernel_rfl
theorem lq332_ok : chkF (run E2 100000).call 82 lq332 = true := by kernel_rfl
theorem lq333_ok : chkF (run E2 100000).call 94 lq333 = true := by kernel_rfl
theorem lq334_ok : chkF (run E2 100000).call 16 lq334 = true := by kernel_rfl
theorem lq335_ok : chkF (run E2 100000).call 82 lq335 = true := by kernel_rfl
theorem lq336_ok : chkF (run E2 100000).call 94 lq336 = true := by kernel_rfl
theorem lq337_ok : chkF (run E2 100000).call 16 lq337 = true := by kernel_rfl
theorem lq338_ok : chkF (run E2 100000).call 82 lq338 = true := by kernel_rfl
theorem lq339_ok : chkF (run E2 100000).call 94 lq339 = true := by kernel_rfl
theorem lq340_ok : chkF (run E2 100000).call 16 lq340 = true := by kernel_rfl
theorem lq341_ok : chkF (run E2 100000).call 82 lq341 = true := by kernel_rfl
theorem lq342_ok : chkF (run E2 100000).call 94 lq342 = true := by kernel_rfl
theorem lq343_ok : chkF (run E2 100000).call 16 lq343 = true := by kernel_rfl
theorem lq344_ok : chkF (run E2 100000).call 82 lq344 = true := by kernel_rfl
theorem lq345_ok : chkF (run E2 100000).call 94 lq345 = true := by kernel_rfl
theorem lq346_ok : chkF (run E2 100000).call 16 lq346 = true := by kernel_rfl
theorem lq347_ok : chkF (run E2 100000).call 82 lq347 = true := by kernel_rfl
theorem lq348_ok : chkF (run E2 100000).call 94 lq348 = true := by kernel_rfl
theorem lq349_ok : chkF (run E2 100000).call 16 lq349 = true := by kernel_rfl
theorem lq350_ok : chkF (run E2 100000).call 82 lq350 = true := by kernel_rfl
theorem lq351_ok : chkF (run E2 100000).call 94 lq351 = true := by kernel_rfl
theorem lq352_ok : chkF (run E2 100000).call 16 lq352 = true := by kernel_rfl
theorem lq353_ok : chkF (run E2 100000).call 10 lq353 = true := by kernel_rfl
theorem lq354_ok : chkF (run E2 100000).call 10 lq354 = true := by kernel_rfl
theorem lq355_ok : chkF (run E2 100000).call 16 lq355 = true := by kernel_rfl
theorem lq356_ok : chkF (run E2 100000).call 94 lq356 = true := by kernel_rfl
theorem lq357_ok : chkF (run E2 100000).call 16 lq357 = true := by kernel_rfl
theorem lq358_ok : chkF (run E2 100000).call 82 lq358 = true := by kernel_rfl
theorem lq359_ok : chkF (run E2 100000).call 82 lq359 = true := by kernel_rfl
theorem lq360_ok : chkF (run E2 100000).call 82 lq360 = true := by kernel_rfl
theorem lq361_ok : chkF (run E2 100000).call 82 lq361 = true := by kernel_rfl
theorem lq362_ok : chkF (run E2 100000).call 82 lq362 = true := by kernel_rfl
theorem lq363_ok : chkF (run E2 100000).call 82 lq363 = true := by kernel_rfl
theorem lq364_ok : chkF (run E2 100000).call 82 lq364 = true := by kernel_rfl
theorem lq365_ok : chkF (run E2 100000).call 82 lq365 = true := by kernel_rfl
theorem lq366_ok : chkF (run E2 100000).call 10 lq366 = true := by kernel_rfl
end Go.Abs.Tryz
