/- By gen_law.py: what stands ahead of the cut. -/
import Derived.Test.YtgdgknjhhgkabaaGreatDoorLR0
set_option linter.unusedVariables false
set_option linter.unusedSimpArgs false
set_option linter.unusedVariables false
set_option maxRecDepth 1000000
namespace Go.Abs.Tryz
open Go.Abs Go.Proofs
theorem lRuns : ∀ k : Nat, k < 13 → lChk k = true
  | 0, _ => lrun_0
  | 1, _ => lrun_1
  | 2, _ => lrun_2
  | 3, _ => lrun_3
  | 4, _ => lrun_4
  | 5, _ => lrun_5
  | 6, _ => lrun_6
  | 7, _ => lrun_7
  | 8, _ => lrun_8
  | 9, _ => lrun_9
  | 10, _ => lrun_10
  | 11, _ => lrun_11
  | 12, _ => lrun_12
  | k + 13, h => absurd h (by omega)
noncomputable def lFr (d : Nat) : Fr := frameOf [.one (.int .u8 (.ofNat d))] 131 2699994366515481621597038467648280573
noncomputable def lPre (d e1 e2 : Nat) : Option (Fr × St) := runL (run E2 100000) (heads 8 lC) (lFr d) ⟨h0 e1 e2, 3⟩
noncomputable def lChkPre (f : Fr) (st : St) : Bool := bsel (hasAll st.h lS0) (bsel (Nat.ble st.c 5713) (bsel (isNilM f.marks) (bsel (Nat.beq f.n 131) (bsel (isReg f.regs 6 (.one (.ptr 5300 0))) (bsel (isReg f.regs 7 (.one (.int .i64 (.ofNat 0)))) (true) false) false) false) false) false) false
theorem lPre_run (d e1 e2 : Nat) : (lPre d e1 e2).map (fun r => (lChkPre r.1 r.2, r.1.regs.get 8)) =
    some (true, some (.one (.int .i64 (IntKind.wrap .i64 ((Int.ofNat d).tmod 13))))) := by kernel_rfl
end Go.Abs.Tryz
