/- By gen_fact.py: the law behind its cut, a case for each k and u. -/
import Derived.Test.YtgdgknjhhgkabaaGreatDoorUTab
set_option linter.unusedVariables false
set_option linter.unusedSimpArgs false
set_option linter.unusedVariables false
set_option maxRecDepth 1000000
namespace Go.Abs.Tryz
open Go.Abs Go.Proofs
noncomputable def lawC : Code := match Tryz.f4.body with | some c => c | none => .skip
theorem lawC_eq : Tryz.f4.body = some lawC := rfl
noncomputable def restC : Code := cutRest 9 lawC
noncomputable def L (k u : Nat) : Regs := ⟨[(8, .one (.ptr 5300 0)), (9, .one (.int .i64 (.ofNat 0))), (10, .one (.int .i64 (.ofNat k))), (11, .one (.int .i64 (.ofNat u)))], .nil⟩
noncomputable def chk (k u : Nat) : Bool := chkRest 4 ((run E3 100000).code 3 none restC ⟨L k u, 147, 1267660271782361397054672928755, []⟩ ⟨mkH S0, 5713⟩)
end Go.Abs.Tryz
