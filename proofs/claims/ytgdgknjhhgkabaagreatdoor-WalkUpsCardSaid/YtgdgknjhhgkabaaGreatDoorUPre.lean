/- By gen_fact.py: what stands ahead of the cut. -/
import Derived.Test.YtgdgknjhhgkabaaGreatDoorUR
set_option linter.unusedVariables false
set_option linter.unusedSimpArgs false
set_option linter.unusedVariables false
set_option maxRecDepth 1000000
namespace Go.Abs.Tryz
open Go.Abs Go.Proofs
theorem runs : ∀ k u : Nat, k < 7 → u < 10 → chk k u = true
  | 0, 0, _, _ => run_0_0
  | 0, 1, _, _ => run_0_1
  | 0, 2, _, _ => run_0_2
  | 0, 3, _, _ => run_0_3
  | 0, 4, _, _ => run_0_4
  | 0, 5, _, _ => run_0_5
  | 0, 6, _, _ => run_0_6
  | 0, 7, _, _ => run_0_7
  | 0, 8, _, _ => run_0_8
  | 0, 9, _, _ => run_0_9
  | 1, 0, _, _ => run_1_0
  | 1, 1, _, _ => run_1_1
  | 1, 2, _, _ => run_1_2
  | 1, 3, _, _ => run_1_3
  | 1, 4, _, _ => run_1_4
  | 1, 5, _, _ => run_1_5
  | 1, 6, _, _ => run_1_6
  | 1, 7, _, _ => run_1_7
  | 1, 8, _, _ => run_1_8
  | 1, 9, _, _ => run_1_9
  | 2, 0, _, _ => run_2_0
  | 2, 1, _, _ => run_2_1
  | 2, 2, _, _ => run_2_2
  | 2, 3, _, _ => run_2_3
  | 2, 4, _, _ => run_2_4
  | 2, 5, _, _ => run_2_5
  | 2, 6, _, _ => run_2_6
  | 2, 7, _, _ => run_2_7
  | 2, 8, _, _ => run_2_8
  | 2, 9, _, _ => run_2_9
  | 3, 0, _, _ => run_3_0
  | 3, 1, _, _ => run_3_1
  | 3, 2, _, _ => run_3_2
  | 3, 3, _, _ => run_3_3
  | 3, 4, _, _ => run_3_4
  | 3, 5, _, _ => run_3_5
  | 3, 6, _, _ => run_3_6
  | 3, 7, _, _ => run_3_7
  | 3, 8, _, _ => run_3_8
  | 3, 9, _, _ => run_3_9
  | 4, 0, _, _ => run_4_0
  | 4, 1, _, _ => run_4_1
  | 4, 2, _, _ => run_4_2
  | 4, 3, _, _ => run_4_3
  | 4, 4, _, _ => run_4_4
  | 4, 5, _, _ => run_4_5
  | 4, 6, _, _ => run_4_6
  | 4, 7, _, _ => run_4_7
  | 4, 8, _, _ => run_4_8
  | 4, 9, _, _ => run_4_9
  | 5, 0, _, _ => run_5_0
  | 5, 1, _, _ => run_5_1
  | 5, 2, _, _ => run_5_2
  | 5, 3, _, _ => run_5_3
  | 5, 4, _, _ => run_5_4
  | 5, 5, _, _ => run_5_5
  | 5, 6, _, _ => run_5_6
  | 5, 7, _, _ => run_5_7
  | 5, 8, _, _ => run_5_8
  | 5, 9, _, _ => run_5_9
  | 6, 0, _, _ => run_6_0
  | 6, 1, _, _ => run_6_1
  | 6, 2, _, _ => run_6_2
  | 6, 3, _, _ => run_6_3
  | 6, 4, _, _ => run_6_4
  | 6, 5, _, _ => run_6_5
  | 6, 6, _, _ => run_6_6
  | 6, 7, _, _ => run_6_7
  | 6, 8, _, _ => run_6_8
  | 6, 9, _, _ => run_6_9
  | 0, u + 10, _, h => absurd h (by omega)
  | 1, u + 10, _, h => absurd h (by omega)
  | 2, u + 10, _, h => absurd h (by omega)
  | 3, u + 10, _, h => absurd h (by omega)
  | 4, u + 10, _, h => absurd h (by omega)
  | 5, u + 10, _, h => absurd h (by omega)
  | 6, u + 10, _, h => absurd h (by omega)
  | k + 7, _, h, _ => absurd h (by omega)
noncomputable def fr0 (d e : Nat) : Fr := frameOf [.one (.int .u8 (.ofNat d)), .one (.int .u8 (.ofNat e))] 147 1267660271782361397054672928755
noncomputable def pre (d e e1 e2 : Nat) : Option (Fr × St) := runL (run E2 100000) (heads 9 lawC) (fr0 d e) ⟨h0 e1 e2, 3⟩
noncomputable def chkPre (f : Fr) (st : St) : Bool := bsel (hasAll st.h S0) (bsel (Nat.ble st.c 5713) (bsel (isNilM f.marks) (bsel (Nat.beq f.n 147) (bsel (isReg f.regs 8 (.one (.ptr 5300 0))) (bsel (isReg f.regs 9 (.one (.int .i64 (.ofNat 0)))) true false) false) false) false) false) false
theorem pre_run (d e e1 e2 : Nat) : (pre d e e1 e2).map (fun r => (chkPre r.1 r.2, r.1.regs.get 10, r.1.regs.get 11)) =
    some (true, some (.one (.int .i64 (IntKind.wrap .i64 ((Int.ofNat d).tmod 7)))), some (.one (.int .i64 (IntKind.wrap .i64 ((Int.ofNat e).tmod 10))))) := by kernel_rfl
end Go.Abs.Tryz
