/- By gen_law.py: the law behind its cut, a case for each remainder of its bytes. -/
import Derived.Test.YtgdgknjhhgkabaaGreatDoorLTab
set_option linter.unusedVariables false
set_option linter.unusedSimpArgs false
set_option linter.unusedVariables false
set_option maxRecDepth 1000000
namespace Go.Abs.Tryz
open Go.Abs Go.Proofs
noncomputable def lC : Code := match Tryz.f3.body with | some c => c | none => .skip
theorem lC_eq : Tryz.f3.body = some lC := rfl
noncomputable def lRest : Code := cutRest 8 lC
noncomputable def lL (k : Nat) : Regs := ⟨[(6, .one (.ptr 5300 0)), (7, .one (.int .i64 (.ofNat 0))), (8, .one (.int .i64 (.ofNat (k))))], .nil⟩
noncomputable def lChk (k : Nat) : Bool := chkRest 2 ((run lE 100000).code 3 none lRest ⟨lL k, 131, 2699994366515481621597038467648280573, []⟩ ⟨mkH lS0, 5713⟩)
end Go.Abs.Tryz
