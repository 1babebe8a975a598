/- By gen_law.py: the law tells true, whatever its bytes. -/
import Derived.Test.YtgdgknjhhgkabaaGreatDoorLPre
set_option linter.unusedVariables false
set_option linter.unusedSimpArgs false
set_option linter.unusedVariables false
set_option maxRecDepth 1000000
namespace Go.Abs.Tryz
open Go.Abs Go.Proofs
theorem lVal0 : ∀ d : Fin 256, IntKind.wrap .i64 ((Int.ofNat d.val).tmod 13) = Int.ofNat ((d.val % 13)) := by decide +kernel
theorem l_calls {W : World} {e1 e2 : Nat} (h1 : W.heap[1]? = some (.cells (vals .u32 kList).toArray e1 (0, 0))) (h2 : W.heap[2]? = some (.cells (vals .i64 qList).toArray e2 (0, 0))) (d : Nat) (hd : d < 256) :
    Calls Tryz.prog 3 #[.int .u8 (Int.ofNat d)] W fun x W' => x = .returned (.bool true) ∧ Kept W W' := by
  have m := start h1 h2
  have hp := lPre_run d e1 e2
  cases hr : lPre d e1 e2 with
  | none => rw [hr] at hp; cases hp
  | some r =>
    obtain ⟨fr1, st1⟩ := r
    rw [hr] at hp
    simp only [Option.map_some, Option.some.injEq, Prod.mk.injEq] at hp
    obtain ⟨hc, hk⟩ := hp
    obtain ⟨c1, hc⟩ := bselF hc
    obtain ⟨c2, hc⟩ := bselF hc
    obtain ⟨c3, hc⟩ := bselF hc
    obtain ⟨c4, hc⟩ := bselF hc
    obtain ⟨r0, hc⟩ := bselF hc
    obtain ⟨r1, hc⟩ := bselF hc
    rw [lVal0 ⟨d, hd⟩] at hk
    obtain ⟨fr2, st2, hrest, hv, hm2⟩ := chkRest_spec (lRuns (d % 13) (Nat.mod_lt _ (by decide)))
    have hn := Nat.eq_of_beq_eq_true c4
    have hf : FrOk (startR 64 32) (lFr d) { tmps := #[.int .u8 (Int.ofNat d)] ++ Array.replicate (Tryz.f3.ntmps - (#[.int .u8 (Int.ofNat d)] : Array Value).size) undef, defers := [] } := by
      rw [Tryz.ntmps3]
      exact frameOf_ok (by simp) ⟨_, _, rfl, rfl, rfl⟩
    have hregs : ∀ t v, (lL (d % 13)).get t = some v → fr1.regs.get t = some v := regs_sub (fun p hp => by
      simp only [List.mem_cons, List.not_mem_nil, or_false] at hp
      rcases hp with rfl | rfl | rfl
      · exact isReg_spec r0
      · exact isReg_spec r1
      · exact hk)
    rw [← hn] at hrest
    refine (law_ok (P := Tryz.prog) (n := 8) (e := run E2 100000) (e' := run lE 100000) Tryz.func3 lC_eq rfl (sound2 100000).code (lSound 100000).code m (start_glob _ _) (Nat.le_refl _) hf hr
      (fun id o h => (hasAll_spec c1 id o h).1) (Nat.le_of_ble_eq_true c2) hregs rfl (isNilM_spec c3) hrest hv hm2).mono fun x W' hx => ?_
    obtain ⟨rfl, ρ1, w1, ρ2, x1, x2⟩ := hx
    exact ⟨rfl, parts_kept m (start_kept (intCVs_nats _ kList) (intCVs_nats _ qList) m x1) x1 x2 (fun id hid => by
      rcases (by omega : id = 0 ∨ id = 1 ∨ id = 2) with rfl | rfl | rfl <;> rfl)⟩
end Go.Abs.Tryz
