/- By gen_law.py: the law behind its cut, a case for each remainder of its bytes. -/
import Derived.Test.YtgdgknjhhgkabaaGreatDoorNTab
set_option linter.unusedVariables false
set_option linter.unusedSimpArgs false
set_option linter.unusedVariables false
set_option maxRecDepth 1000000
namespace Go.Abs.Tryz
open Go.Abs Go.Proofs
noncomputable def nC : Code := match Tryz.f5.body with | some c => c | none => .skip
theorem nC_eq : Tryz.f5.body = some nC := rfl
noncomputable def nRest : Code := cutRest 8 nC
noncomputable def nL (k u : Nat) : Regs := ⟨[(8, .one (.ptr 7599 0)), (9, .one (.int .i64 (.ofNat 0))), (10, .one (.int .i64 (.ofNat (k + 1)))), (1, .one (.int .u8 (.ofNat (u))))], .nil⟩
noncomputable def nChk (k u : Nat) : Bool := chkRest 4 ((run nE 100000).code 3 none nRest ⟨nL k u, 196, 590367876920084266995, []⟩ ⟨mkH nS0, 8012⟩)
end Go.Abs.Tryz
