/- By gen_law.py: what stands ahead of the cut. -/
import Derived.Test.YtgdgknjhhgkabaaGreatDoorNR0
import Derived.Test.YtgdgknjhhgkabaaGreatDoorNR1
import Derived.Test.YtgdgknjhhgkabaaGreatDoorNR2
set_option linter.unusedVariables false
set_option linter.unusedSimpArgs false
set_option linter.unusedVariables false
set_option maxRecDepth 1000000
namespace Go.Abs.Tryz
open Go.Abs Go.Proofs
theorem nRuns : ∀ k u : Nat, k < 5 → u < 256 → nChk k u = true
  | 0, u, _, h => if q0 : u < 64 then allSpan_spec nrun_0_0 u (by omega) (by omega) else if q64 : u < 128 then allSpan_spec nrun_0_64 u (by omega) (by omega) else if q128 : u < 192 then allSpan_spec nrun_0_128 u (by omega) (by omega) else if q192 : u < 256 then allSpan_spec nrun_0_192 u (by omega) (by omega) else absurd h (by omega)
  | 1, u, _, h => if q0 : u < 64 then allSpan_spec nrun_1_0 u (by omega) (by omega) else if q64 : u < 128 then allSpan_spec nrun_1_64 u (by omega) (by omega) else if q128 : u < 192 then allSpan_spec nrun_1_128 u (by omega) (by omega) else if q192 : u < 256 then allSpan_spec nrun_1_192 u (by omega) (by omega) else absurd h (by omega)
  | 2, u, _, h => if q0 : u < 64 then allSpan_spec nrun_2_0 u (by omega) (by omega) else if q64 : u < 128 then allSpan_spec nrun_2_64 u (by omega) (by omega) else if q128 : u < 192 then allSpan_spec nrun_2_128 u (by omega) (by omega) else if q192 : u < 256 then allSpan_spec nrun_2_192 u (by omega) (by omega) else absurd h (by omega)
  | 3, u, _, h => if q0 : u < 64 then allSpan_spec nrun_3_0 u (by omega) (by omega) else if q64 : u < 128 then allSpan_spec nrun_3_64 u (by omega) (by omega) else if q128 : u < 192 then allSpan_spec nrun_3_128 u (by omega) (by omega) else if q192 : u < 256 then allSpan_spec nrun_3_192 u (by omega) (by omega) else absurd h (by omega)
  | 4, u, _, h => if q0 : u < 64 then allSpan_spec nrun_4_0 u (by omega) (by omega) else if q64 : u < 128 then allSpan_spec nrun_4_64 u (by omega) (by omega) else if q128 : u < 192 then allSpan_spec nrun_4_128 u (by omega) (by omega) else if q192 : u < 256 then allSpan_spec nrun_4_192 u (by omega) (by omega) else absurd h (by omega)
  | k + 5, _, h, _ => absurd h (by omega)
noncomputable def nFr (d e : Nat) : Fr := frameOf [.one (.int .u8 (.ofNat d)), .one (.int .u8 (.ofNat e))] 196 590367876920084266995
noncomputable def nPre (d e e1 e2 : Nat) : Option (Fr × St) := runL (run E2 100000) (heads 8 nC) (nFr d e) ⟨h0 e1 e2, 3⟩
noncomputable def nChkPre (f : Fr) (st : St) : Bool := bsel (hasAll st.h nS0) (bsel (Nat.ble st.c 8012) (bsel (isNilM f.marks) (bsel (Nat.beq f.n 196) (bsel (isReg f.regs 8 (.one (.ptr 7599 0))) (bsel (isReg f.regs 9 (.one (.int .i64 (.ofNat 0)))) (true) false) false) false) false) false) false
theorem nPre_run (d e e1 e2 : Nat) : (nPre d e e1 e2).map (fun r => (nChkPre r.1 r.2, r.1.regs.get 10, r.1.regs.get 1)) =
    some (true, some (.one (.int .i64 (IntKind.wrap .i64 (IntKind.wrap .i64 ((Int.ofNat d).tmod 5) + 1)))), some (.one (.int .u8 (Int.ofNat e)))) := by kernel_rfl
end Go.Abs.Tryz
