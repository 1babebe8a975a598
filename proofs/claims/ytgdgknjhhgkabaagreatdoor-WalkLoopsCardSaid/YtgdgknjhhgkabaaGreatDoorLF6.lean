/- By gen_law.py: facts, told by runs in the kernel. -/
import Derived.Test.YtgdgknjhhgkabaaGreatDoorLObj
set_option linter.unusedVariables false
set_option linter.unusedSimpArgs false
set_option linter.unusedVariables false
set_option maxRecDepth 1000000
namespace Go.Abs.Tryz
open Go.Abs Go.Proofs
theorem lq367_ok : chkF (run E2 100000).call 10 lq367 = true := by kernel_rfl
theorem lq368_ok : chkF (run E2 100000).call 16 lq368 = true := by kernel_rfl
theorem lq369_ok : chkF (run E2 100000).call 94 lq369 = true := by kernel_rfl
theorem lq370_ok : chkF (run E2 100000).call 16 lq370 = true := by kernel_rfl
theorem lq371_ok : chkF (run E2 100000).call 82 lq371 = true := by kernel_rfl
theorem lq372_ok : chkF (run E2 100000).call 94 lq372 = true := by kernel_rfl
theorem lq373_ok : chkF (run E2 100000).call 16 lq373 = true := by kernel_rfl
theorem lq374_ok : chkF (run E2 100000).call 82 lq374 = true := by kernel_rfl
theorem lq375_ok : chkF (run E2 100000).call 94 lq375 = true := by kernel_rfl
theorem lq376_ok : chkF (run E2 100000).call 16 lq376 = true := by kernel_rfl
theorem lq377_ok : chkF (run E2 100000).call 82 lq377 = true := by kernel_rfl
theorem lq378_ok : chkF (run E2 100000).call 94 lq378 = true := by kernel_rfl
theorem lq379_ok : chkF (run E2 100000).call 16 lq379 = true := by kernel_rfl
theorem lq380_ok : chkF (run E2 100000).call 82 lq380 = true := by kernel_rfl
theorem lq381_ok : chkF (run E2 100000).call 94 lq381 = true := by kernel_rfl
theorem lq382_ok : chkF (run E2 100000).call 16 lq382 = true := by kernel_rfl
theorem lq383_ok : chkF (run E2 100000).call 82 lq383 = true := by kernel_rfl
theorem lq384_ok : chkF (run E2 100000).call 94 lq384 = true := by kernel_rfl
theorem lq385_ok : chkF (run E2 100000).call 16 lq385 = true := by kernel_rfl
theorem lq386_ok : chkF (run E2 100000).call 82 lq386 = true := by kernel_rfl
theorem lq387_ok : chkF (run E2 100000).call 94 lq387 = true := by kernel_rfl
theorem lq388_ok : chkF (run E2 100000).call 16 lq388 = true := by kernel_rfl
theorem lq389_ok : chkF (run E2 100000).call 82 lq389 = true := by kernel_rfl
theorem lq390_ok : chkF (run E2 100000).call 94 lq390 = true := by kernel_rfl
theorem lq391_ok : chkF (run E2 100000).call 16 lq391 = true := by kernel_rfl
theorem lq392_ok : chkF (run E2 100000).call 82 lq392 = true := by kernel_rfl
theorem lq393_ok : chkF (run E2 100000).call 94 lq393 = true := by kernel_rfl
theorem lq394_ok : chkF (run E2 100000).call 16 lq394 = true := by kernel_rfl
theorem lq395_ok : chkF (run E2 100000).call 10 lq395 = true := by kernel_rfl
theorem lq396_ok : chkF (run E2 100000).call 10 lq396 = true := by kernel_rfl
theorem lq397_ok : chkF (run E2 100000).call 16 lq397 = true := by kernel_rfl
theorem lq398_ok : chkF (run E2 100000).call 94 lq398 = true := by kernel_rfl
theorem lq399_ok : chkF (run E2 100000).call 16 lq399 = true := by kernel_rfl
theorem lq400_ok : chkF (run E2 100000).call 82 lq400 = true := by kernel_rfl
theorem lq401_ok : chkF (run E2 100000).call 82 lq401 = true := by kernel_rfl
theorem lq402_ok : chkF (run E2 100000).call 82 lq402 = true := by kernel_rfl
theorem lq403_ok : chkF (run E2 100000).call 82 lq403 = true := by kernel_rfl
theorem lq404_ok : chkF (run E2 100000).call 82 lq404 = true := by kernel_rfl
theorem lq405_ok : chkF (run E2 100000).call 82 lq405 = true := by kernel_rfl
theorem lq406_ok : chkF (run E2 100000).call 82 lq406 = true := by kernel_rfl
theorem lq407_ok : chkF (run E2 100000).call 82 lq407 = true := by kernel_rfl
theorem lq408_ok : chkF (run E2 100000).call 10 lq408 = true := by kernel_rfl
theorem lq409_ok : chkF (run E2 100000).call 16 lq409 = true := by kernel_rfl
theorem lq410_ok : chkF (run E2 100000).call 94 lq410 = true := by kernel_rfl
theorem lq411_ok : chkF (run E2 100000).call 16 lq411 = true := by kernel_rfl
theorem lq412_ok : chkF (run E2 100000).call 82 lq412 = true := by kernel_rfl
theorem lq413_ok : chkF (run E2 100000).call 94 lq413 = true := by kernel_rfl
theorem lq414_ok : chkF (run E2 100000).call 16 lq414 = true := by kernel_rfl
theorem lq415_ok : chkF (run E2 100000).call 82 lq415 = true := by kernel_rfl
end Go.Abs.Tryz
