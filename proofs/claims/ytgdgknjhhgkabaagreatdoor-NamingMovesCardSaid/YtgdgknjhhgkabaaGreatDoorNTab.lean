/- By gen_law.py: the tables of facts, and that they are sound. -/
import Derived.Test.YtgdgknjhhgkabaaGreatDoorNF0
import Derived.Test.YtgdgknjhhgkabaaGreatDoorNF1
import Derived.Test.YtgdgknjhhgkabaaGreatDoorNF2
import Derived.Test.YtgdgknjhhgkabaaGreatDoorNF3
import Derived.Test.YtgdgknjhhgkabaaGreatDoorNF4
set_option linter.unusedVariables false
set_option linter.unusedSimpArgs false
set_option linter.unusedVariables false
set_option maxRecDepth 1000000
namespace Go.Abs.Tryz
open Go.Abs Go.Proofs
noncomputable def ntb14 : List Fact := [nq0, nq1, nq2, nq10, nq11, nq12, nq21, nq22, nq23, nq33, nq34, nq35, nq46, nq47, nq48]
theorem ntb14_ok : ∀ q ∈ ntb14, chkF (run E2 100000).call 14 q = true := List.forall_mem_cons.2 ⟨nq0_ok, List.forall_mem_cons.2 ⟨nq1_ok, List.forall_mem_cons.2 ⟨nq2_ok, List.forall_mem_cons.2 ⟨nq10_ok, List.forall_mem_cons.2 ⟨nq11_ok, List.forall_mem_cons.2 ⟨nq12_ok, List.forall_mem_cons.2 ⟨nq21_ok, List.forall_mem_cons.2 ⟨nq22_ok, List.forall_mem_cons.2 ⟨nq23_ok, List.forall_mem_cons.2 ⟨nq33_ok, List.forall_mem_cons.2 ⟨nq34_ok, List.forall_mem_cons.2 ⟨nq35_ok, List.forall_mem_cons.2 ⟨nq46_ok, List.forall_mem_cons.2 ⟨nq47_ok, List.forall_mem_cons.2 ⟨nq48_ok, fun _ h => absurd h List.not_mem_nil⟩⟩⟩⟩⟩⟩⟩⟩⟩⟩⟩⟩⟩⟩⟩
noncomputable def ntb15 : List Fact := [nq3, nq4, nq13, nq14, nq20, nq24, nq25, nq31, nq32, nq36, nq37, nq43, nq44, nq45, nq49, nq50, nq56, nq57, nq58, nq59]
theorem ntb15_ok : ∀ q ∈ ntb15, chkF (run E2 100000).call 15 q = true := List.forall_mem_cons.2 ⟨nq3_ok, List.forall_mem_cons.2 ⟨nq4_ok, List.forall_mem_cons.2 ⟨nq13_ok, List.forall_mem_cons.2 ⟨nq14_ok, List.forall_mem_cons.2 ⟨nq20_ok, List.forall_mem_cons.2 ⟨nq24_ok, List.forall_mem_cons.2 ⟨nq25_ok, List.forall_mem_cons.2 ⟨nq31_ok, List.forall_mem_cons.2 ⟨nq32_ok, List.forall_mem_cons.2 ⟨nq36_ok, List.forall_mem_cons.2 ⟨nq37_ok, List.forall_mem_cons.2 ⟨nq43_ok, List.forall_mem_cons.2 ⟨nq44_ok, List.forall_mem_cons.2 ⟨nq45_ok, List.forall_mem_cons.2 ⟨nq49_ok, List.forall_mem_cons.2 ⟨nq50_ok, List.forall_mem_cons.2 ⟨nq56_ok, List.forall_mem_cons.2 ⟨nq57_ok, List.forall_mem_cons.2 ⟨nq58_ok, List.forall_mem_cons.2 ⟨nq59_ok, fun _ h => absurd h List.not_mem_nil⟩⟩⟩⟩⟩⟩⟩⟩⟩⟩⟩⟩⟩⟩⟩⟩⟩⟩⟩⟩
noncomputable def ntb11 : List Fact := [nq5, nq6, nq7, nq15, nq16, nq17, nq26, nq27, nq28, nq38, nq39, nq40, nq51, nq52, nq53]
theorem ntb11_ok : ∀ q ∈ ntb11, chkF (run E2 100000).call 11 q = true := List.forall_mem_cons.2 ⟨nq5_ok, List.forall_mem_cons.2 ⟨nq6_ok, List.forall_mem_cons.2 ⟨nq7_ok, List.forall_mem_cons.2 ⟨nq15_ok, List.forall_mem_cons.2 ⟨nq16_ok, List.forall_mem_cons.2 ⟨nq17_ok, List.forall_mem_cons.2 ⟨nq26_ok, List.forall_mem_cons.2 ⟨nq27_ok, List.forall_mem_cons.2 ⟨nq28_ok, List.forall_mem_cons.2 ⟨nq38_ok, List.forall_mem_cons.2 ⟨nq39_ok, List.forall_mem_cons.2 ⟨nq40_ok, List.forall_mem_cons.2 ⟨nq51_ok, List.forall_mem_cons.2 ⟨nq52_ok, List.forall_mem_cons.2 ⟨nq53_ok, fun _ h => absurd h List.not_mem_nil⟩⟩⟩⟩⟩⟩⟩⟩⟩⟩⟩⟩⟩⟩⟩
noncomputable def ntb16 : List Fact := [nq8, nq9, nq18, nq19, nq29, nq30, nq41, nq42, nq54, nq55]
theorem ntb16_ok : ∀ q ∈ ntb16, chkF (run E2 100000).call 16 q = true := List.forall_mem_cons.2 ⟨nq8_ok, List.forall_mem_cons.2 ⟨nq9_ok, List.forall_mem_cons.2 ⟨nq18_ok, List.forall_mem_cons.2 ⟨nq19_ok, List.forall_mem_cons.2 ⟨nq29_ok, List.forall_mem_cons.2 ⟨nq30_ok, List.forall_mem_cons.2 ⟨nq41_ok, List.forall_mem_cons.2 ⟨nq42_ok, List.forall_mem_cons.2 ⟨nq54_ok, List.forall_mem_cons.2 ⟨nq55_ok, fun _ h => absurd h List.not_mem_nil⟩⟩⟩⟩⟩⟩⟩⟩⟩⟩
noncomputable def nSums (f : Nat) : Option (Nat → List TV → St → Option (TV × St)) := bsel (Nat.beq f 16) (some (factG ntb16)) (bsel (Nat.beq f 11) (some (factG ntb11)) (bsel (Nat.beq f 15) (some (factG ntb15)) (bsel (Nat.beq f 14) (some (factG ntb14)) none)))
noncomputable def nE : Env := mkE nSums
theorem nSound0 : SumSound Tryz.prog nE := by
  intro f g h
  replace h : bsel (Nat.beq f 16) (some (factG ntb16)) (bsel (Nat.beq f 11) (some (factG ntb11)) (bsel (Nat.beq f 15) (some (factG ntb15)) (bsel (Nat.beq f 14) (some (factG ntb14)) none))) = some g := h
  cases hb16 : Nat.beq f 16 with
  | true =>
    rw [hb16, bsel_true] at h
    cases h
    have := Nat.eq_of_beq_eq_true hb16
    subst this
    exact @fact_sound _ (run E2 100000).call (fun h => (sound2 100000).call h) _ _ ntb16_ok
  | false =>
  rw [hb16, bsel_false] at h
  cases hb11 : Nat.beq f 11 with
  | true =>
    rw [hb11, bsel_true] at h
    cases h
    have := Nat.eq_of_beq_eq_true hb11
    subst this
    exact @fact_sound _ (run E2 100000).call (fun h => (sound2 100000).call h) _ _ ntb11_ok
  | false =>
  rw [hb11, bsel_false] at h
  cases hb15 : Nat.beq f 15 with
  | true =>
    rw [hb15, bsel_true] at h
    cases h
    have := Nat.eq_of_beq_eq_true hb15
    subst this
    exact @fact_sound _ (run E2 100000).call (fun h => (sound2 100000).call h) _ _ ntb15_ok
  | false =>
  rw [hb15, bsel_false] at h
  cases hb14 : Nat.beq f 14 with
  | true =>
    rw [hb14, bsel_true] at h
    cases h
    have := Nat.eq_of_beq_eq_true hb14
    subst this
    exact @fact_sound _ (run E2 100000).call (fun h => (sound2 100000).call h) _ _ ntb14_ok
  | false =>
  rw [hb14, bsel_false] at h
  cases h
theorem nSound (n : Nat) : EvSound Tryz.prog n (run nE n) := run_sound (progOk _) nSound0 (draw_sound (progOk _)) n
end Go.Abs.Tryz
